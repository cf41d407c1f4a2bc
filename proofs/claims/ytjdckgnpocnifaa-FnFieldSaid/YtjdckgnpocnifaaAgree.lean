/- The law FnAgree returns true of whatever bytes the draws come from, which read behind the call as before.
   Conditions: none. -/
import Derived.Test.YtjdckgnpocnifaaGA
import Derived.Test.YtjdckgnpocnifaaPublicKey
import Derived.Test.YtjdckgnpocnifaaDraw
open Go.Ab Go.Num
set_option linter.unusedVariables false
set_option linter.unusedSimpArgs false
namespace Go.Proofs.Ytjdckgnpocnifaa

noncomputable def I12 (M : Mem) : Sum := inl Try.prog M (fns []) 300 12 Try.f12
theorem I12_s (M : Mem) : (I12 M).Sound Try.prog M := inl_sound fns_nil mix Try.func12 (by kernel_rfl) (by kernel_rfl)
noncomputable def L7 (M : Mem) : List Sum := [I12 M, arrSumG Try.prog M 18 32, nSumG M 19, pkSum 17, smSum 15, smSum 14]
theorem L7_sound (M : Mem) : ∀ s ∈ L7 M, s.SoundC Try.prog M := consC (I12_s M).c (consC (dK M) (consC (dN M) (consC (pk17 M) (consC (sm15 M) (consC (sm14 M) nilC)))))

/-- Two rows of numbers compared, as the model's '==' on arrays does. -/
def andN (x y : Nat → Int) (a : Nat) : Nat → Bool
  | 0 => true
  | m + 1 => (x a == y a) && andN x y (a + 1) m
theorem andN_true {x y : Nat → Int} : ∀ {m a : Nat}, (∀ j, a ≤ j → j < a + m → x j = y j) → andN x y a m = true := by
  intro m
  induction m with
  | zero => intro a _; rfl
  | succ m ih => intro a h; simp only [andN, Bool.and_eq_true, beq_iff_eq]; exact ⟨h a (by omega) (by omega), ih fun j h1 h2 => h j (by omega) (by omega)⟩

/-- A product's bytes. -/
def prF (a b : Nat → Int) : Nat → Int := fun i => smF (wd (cellsI .u8 32 a)) (uN (wd (cellsI .u8 32 b))) % pF / 256 ^ i % 256
def changedA (a : Nat → Int) (r s : Int) (i : Nat) : Int := bif Nat.beq i 0 then bits .xor .u8 (a 0) (IntKind.u8.wrap r) else bif Nat.beq i 31 then bits .xor .u8 (a 31) (IntKind.u8.wrap (IntKind.i64.wrap (64 * s))) else a i
def changedP (p : Nat → Int) (i : Nat) : Int := bif Nat.beq i 31 then bits .xor .u8 (p 31) 128 else p i

section
variable (M : Mem) (u : Option (Nat × Nat)) (n c : Nat)
noncomputable def agA : (Nat → Int) × (Int × Int) := arrR Try.prog M 18 32 u n c false 1 (seedC (lenS u n))
noncomputable def agB : (Nat → Int) × (Int × Int) := arrR Try.prog M 18 32 u n c false 1 (agA M u n c).2
noncomputable def agD : Nat → Int × Int := drawC M (srcA u) (lenS u n) (agB M u n c).2
noncomputable def agM : Int := nK 1000 (agD M u n c 1).1
noncomputable def agP : Nat → Int := prF (agA M u n c).1 nine
noncomputable def agQ : Nat → Int := prF (agB M u n c).1 nine
noncomputable def agX : Nat → Int := prF (agA M u n c).1 (agQ M u n c)
noncomputable def agY : Nat → Int := prF (agB M u n c).1 (agP M u n c)
noncomputable def agC : Nat → Int := changedA (agA M u n c).1 (nK 8 (agD M u n c 2).1) (nK 4 (agD M u n c 3).1)
noncomputable def agZ : Nat → Int := prF (agC M u n c) (changedP (agQ M u n c))
noncomputable def pins7 : Pins :=
  [(decide ((lenS u n : Int) > 1048576), false), (srcOk M (srcA u) (lenS u n) 0, true), (srcOk M (srcA u) (lenS u n) (agA M u n c).2.2, true)] ++ dPin M (srcA u) (lenS u n) (agD M u n c 0) 1000 ++
  [(rngB (cellsI .u8 32 (agA M u n c).1), true), (rngB (cellsI .u8 32 (agB M u n c).1), true), (rngB (cellsI .u8 32 (agA M u n c).1) && rngB (cellsI .u8 32 (agQ M u n c)), true), (rngB (cellsI .u8 32 (agB M u n c).1) && rngB (cellsI .u8 32 (agP M u n c)), true),
   (!andN (agX M u n c) (agY M u n c) 0 32, false), (IntKind.i64.wrap (agM M u n c + 1) != IntKind.i64.wrap (agM M u n c + 1), false), (IntKind.i64.wrap (IntKind.i64.wrap (agM M u n c + 1) + 1) != IntKind.i64.wrap (agM M u n c + 2), false),
   (IntKind.i64.wrap (IntKind.i64.wrap (IntKind.i64.wrap (agM M u n c + 1) + 1) + 1) != IntKind.i64.wrap (agM M u n c + 3), false), (IntKind.i64.wrap (IntKind.i64.wrap (IntKind.i64.wrap (IntKind.i64.wrap (agM M u n c + 1) + 1) + 1) + 1) != IntKind.i64.wrap (agM M u n c + 4), false)] ++
  dPin M (srcA u) (lenS u n) (agD M u n c 1) 8 ++ dPin M (srcA u) (lenS u n) (agD M u n c 2) 4 ++
  [(rngB (cellsI .u8 32 (agC M u n c)) && rngB (cellsI .u8 32 (changedP (agQ M u n c))), true), (rngB (cellsI .u8 32 (agC M u n c)) && rngB (cellsI .u8 32 (changedP (agQ M u n c))), true),
   (andN (agZ M u n c) (agX M u n c) 0 32, true), (andN (agZ M u n c) (agZ M u n c) 0 32, true)]
end

set_option maxRecDepth 100000 in
theorem r7s (M : Mem) (b off n c : Nat) : evFC Try.prog M (L7 M) [21, 58, 63, 69, 75, 81, 116, 120] 1000 Try.f7 [.slice (some ⟨b, off, none⟩) n c] [] [false, false, false, false, false, false, true, true]
   = some ((.bool true, [], []), pins7 M (some (b, off)) n c) := by kernel_rfl
set_option maxRecDepth 100000 in
theorem r7z (M : Mem) : evFC Try.prog M (L7 M) [21, 58, 63, 69, 75, 81, 116, 120] 1000 Try.f7 [.slice none 0 0] [] [false, false, false, false, false, false, true, true]
   = some ((.bool true, [], []), pins7 M none 0 0) := by kernel_rfl
set_option maxRecDepth 100000 in
theorem r7l (M : Mem) (b off n c : Nat) : evFC Try.prog M (L7 M) [21, 58, 63, 69, 75, 81, 116, 120] 1000 Try.f7 [.slice (some ⟨b, off, none⟩) n c] [] [true]
   = some ((.bool true, [], []), [(decide ((n : Int) > 1048576), true)]) := by kernel_rfl

/-! ### What is asked for holds -/
theorem val_digits {v : Int} (h : 0 ≤ v) : ∀ n : Nat, val 256 (fun i => v / 256 ^ i % 256) n = v % 256 ^ n := by
  intro n
  induction n with
  | zero => simp [val, Int.emod_one]
  | succ n ih =>
    simp only [val]
    rw [ih]
    have hp : (0 : Int) < 256 ^ n := Int.pow_pos (by decide)
    have e1 := Int.mul_ediv_add_emod v (256 ^ n)
    have e2 := Int.mul_ediv_add_emod (v / 256 ^ n) 256
    have r1 := Int.emod_nonneg v (show (256 : Int) ^ n ≠ 0 by omega)
    have r2 := Int.emod_lt_of_pos v hp
    have s1 := Int.emod_nonneg (v / 256 ^ n) (show (256 : Int) ≠ 0 by decide)
    have s2 := Int.emod_lt_of_pos (v / 256 ^ n) (show (0 : Int) < 256 by decide)
    rw [Int.pow_succ]
    generalize hq : v / 256 ^ n = q at *
    generalize hr : v % 256 ^ n = r at *
    generalize hQ : q / 256 = Q at *
    generalize hs : q % 256 = s at *
    generalize (256 : Int) ^ n = B at *
    have hv : v = (r + s * B) + (B * 256) * Q := by rw [← e1, ← e2]; grind
    have b1 : 0 ≤ s * B := Int.mul_nonneg s1 (by omega)
    have b2 : s * B ≤ 255 * B := Int.mul_le_mul_of_nonneg_right (by omega) (by omega)
    rw [hv, Int.add_mul_emod_self_left, Int.emod_eq_of_lt (by omega) (by omega)]

theorem uN_digits {v : Int} (h0 : 0 ≤ v) (h1 : v < pF) : uN (wd (cellsI .u8 32 fun i => v / 256 ^ i % 256)) = v := by
  have hp : pF = 57896044618658097711785492504343953926634992332820282019728792003956564819949 := rfl
  unfold uN
  rw [wd_val, val_digits h0]
  have hB : (256 : Int) ^ 32 = 115792089237316195423570985008687907853269984665640564039457584007913129639936 := by decide
  rw [hB]
  omega

theorem uN_prF (a b : Nat → Int) : uN (wd (cellsI .u8 32 (prF a b))) = smF (wd (cellsI .u8 32 a)) (uN (wd (cellsI .u8 32 b))) % pF := uN_digits (mod_range _).1 (mod_range _).2
theorem uN_nine : uN (wd (cellsI .u8 32 nine)) = 9 := by decide +kernel

theorem prF_range (a b : Nat → Int) (i : Nat) : IntKind.u8.has (prF a b i) := by
  show 0 ≤ _ ∧ _ ≤ (255 : Int)
  unfold prF
  omega

theorem prF_agree (a b : Nat → Int) : prF a (prF b nine) = prF b (prF a nine) := by
  funext i
  unfold prF
  have e : ∀ a b : Nat → Int, Eqp (smF (wd (cellsI .u8 32 a)) (uN (wd (cellsI .u8 32 (prF b nine))))) (smF (wd (cellsI .u8 32 a)) (smF (wd (cellsI .u8 32 b)) 9)) := fun a b => by
    rw [uN_prF, uN_nine]
    exact smF_eqp (Eqp_mod _)
  have := ((e a b).trans (sm_agree _ _)).trans (e b a).symm
  have h2 := this.mod
  unfold prF at h2
  rw [h2]

theorem smF_congr {k l : Nat → Int} (h : ∀ n, n ≤ 254 → bitF k n = bitF l n) (u : Int) : smF k u = smF l u := by
  unfold smF
  rw [lad_congr h 255]

theorem xor_low {a r : Int} (ha : IntKind.u8.has a) (h0 : 0 ≤ r) (h1 : r < 8) : bits .xor .u8 a (IntKind.u8.wrap r) / 8 = a / 8 := by
  have key : ∀ r : Fin 8, ∀ a : Fin 256, bits .xor .u8 (a.val : Int) (IntKind.u8.wrap (r.val : Int)) / 8 = (a.val : Int) / 8 := by decide +kernel
  obtain ⟨n, rfl⟩ := Int.eq_ofNat_of_zero_le h0
  exact byte_all (P := fun a => bits .xor .u8 a (IntKind.u8.wrap (n : Int)) / 8 = a / 8) (key ⟨n, by omega⟩) ha
theorem xor_high {a s : Int} (ha : IntKind.u8.has a) (h0 : 0 ≤ s) (h1 : s < 4) : bits .xor .u8 a (IntKind.u8.wrap (IntKind.i64.wrap (64 * s))) % 64 = a % 64 := by
  have key : ∀ s : Fin 4, ∀ a : Fin 256, bits .xor .u8 (a.val : Int) (IntKind.u8.wrap (IntKind.i64.wrap (64 * (s.val : Int)))) % 64 = (a.val : Int) % 64 := by decide +kernel
  obtain ⟨n, rfl⟩ := Int.eq_ofNat_of_zero_le h0
  exact byte_all (P := fun a => bits .xor .u8 a (IntKind.u8.wrap (IntKind.i64.wrap (64 * (n : Int)))) % 64 = a % 64) (key ⟨n, by omega⟩) ha
theorem xor_top {a : Int} (ha : IntKind.u8.has a) : bits .xor .u8 a 128 % 128 = a % 128 := byte_all (P := fun a => bits .xor .u8 a 128 % 128 = a % 128) (by decide +kernel) ha
theorem bits_has (op : BinOp) (a b : Int) : IntKind.u8.has (bits op .u8 a b) := by
  unfold bits
  exact u8_wrap _

theorem changedA_has {a : Nat → Int} (ha : ∀ i, IntKind.u8.has (a i)) (r s : Int) (i : Nat) : IntKind.u8.has (changedA a r s i) := by
  unfold changedA
  cases Nat.beq i 0 with
  | true => simp only [cond_true, cond_false]; exact bits_has _ _ _
  | false =>
    cases Nat.beq i 31 with
    | true => simp only [cond_true, cond_false]; exact bits_has _ _ _
    | false => exact ha i
theorem changedP_has {a : Nat → Int} (ha : ∀ i, IntKind.u8.has (a i)) (i : Nat) : IntKind.u8.has (changedP a i) := by
  unfold changedP
  cases Nat.beq i 31 with
  | true => simp only [cond_true, cond_false]; exact bits_has _ _ _
  | false => exact ha i

theorem changedA_bits {a : Nat → Int} (ha : ∀ i, IntKind.u8.has (a i)) {r s : Int} (r0 : 0 ≤ r) (r1 : r < 8) (s0 : 0 ≤ s) (s1 : s < 4) : ∀ n, n ≤ 254 → bitF (wd (cellsI .u8 32 (changedA a r s))) n = bitF (wd (cellsI .u8 32 a)) n := by
  intro n hn
  unfold bitF
  by_cases h1 : n = 255 ∨ n < 3
  · rw [if_pos h1, if_pos h1]
  · rw [if_neg h1, if_neg h1]
    by_cases h2 : n = 254
    · rw [if_pos h2, if_pos h2]
    · rw [if_neg h2, if_neg h2, wd_cellsI (by omega), wd_cellsI (by omega)]
      have key : changedA a r s (n / 8) / 2 ^ (n % 8) % 2 = a (n / 8) / 2 ^ (n % 8) % 2 := by
        unfold changedA
        by_cases hlo : n / 8 = 0
        · have hb : Nat.beq (n / 8) 0 = true := by rw [hlo]; rfl
          rw [hb]
          simp only [cond_true]
          have hx := xor_low (ha 0) r0 r1
          rw [hlo]
          generalize bits .xor .u8 (a 0) (IntKind.u8.wrap r) = v at hx ⊢
          have e : n % 8 = n := by omega
          rw [e]
          rcases (by omega : n = 3 ∨ n = 4 ∨ n = 5 ∨ n = 6 ∨ n = 7) with rfl | rfl | rfl | rfl | rfl <;> simp only [Int.reducePow] <;> omega
        · have hb : Nat.beq (n / 8) 0 = false := by rw [Bool.eq_false_iff]; exact fun e => hlo (Nat.eq_of_beq_eq_true e)
          rw [hb]
          simp only [cond_false]
          by_cases hhi : n / 8 = 31
          · have hb : Nat.beq (n / 8) 31 = true := by rw [hhi]; rfl
            rw [hb]
            simp only [cond_true]
            have hx := xor_high (ha 31) s0 s1
            rw [hhi]
            generalize bits .xor .u8 (a 31) (IntKind.u8.wrap (IntKind.i64.wrap (64 * s))) = v at hx ⊢
            rcases (by omega : n % 8 = 0 ∨ n % 8 = 1 ∨ n % 8 = 2 ∨ n % 8 = 3 ∨ n % 8 = 4 ∨ n % 8 = 5) with h | h | h | h | h | h <;> rw [h] <;> simp only [Int.reducePow] <;> omega
          · have hb : Nat.beq (n / 8) 31 = false := by rw [Bool.eq_false_iff]; exact fun e => hhi (Nat.eq_of_beq_eq_true e)
            rw [hb]
            rfl
      rw [key]

theorem changedP_uN {p : Nat → Int} (hp : ∀ i, IntKind.u8.has (p i)) : uN (wd (cellsI .u8 32 (changedP p))) = uN (wd (cellsI .u8 32 p)) := by
  unfold uN
  rw [wd_val, wd_val, ← clP_val (changedP_has hp), ← clP_val hp]
  refine val_congr fun i hi => ?_
  unfold clP changedP
  cases hb : Nat.beq i 31 with
  | true => simp only [cond_true, Nat.beq_refl]; exact xor_top (hp 31)
  | false => simp only [cond_false]

theorem prF_changed {a p : Nat → Int} (ha : ∀ i, IntKind.u8.has (a i)) (hp : ∀ i, IntKind.u8.has (p i)) {r s : Int} (r0 : 0 ≤ r) (r1 : r < 8) (s0 : 0 ≤ s) (s1 : s < 4) : prF (changedA a r s) (changedP p) = prF a p := by
  funext i
  unfold prF
  rw [changedP_uN hp, smF_congr (changedA_bits ha r0 r1 s0 s1)]

theorem pins7_held (M : Mem) (u : Option (Nat × Nat)) (n c : Nat) (h : srcOk M (srcA u) (lenS u n) 0 = true) : Held (pins7 M u n c) := by
  obtain ⟨h1, h2, _⟩ := srcOk_iff.1 h
  obtain ⟨hA, iA, _⟩ := arrR_ok (dK_x M) (u := u) (n := n) (c := c) (g := false) (e := 1) (p := seedC (lenS u n)) h
  have hsB : srcOk M (srcA u) (lenS u n) (agA M u n c).2.2 = true := srcOk_iff.2 ⟨h1, h2, iA⟩
  obtain ⟨hB, iB, _⟩ := arrR_ok (dK_x M) (u := u) (n := n) (c := c) (g := false) (e := 1) (p := (agA M u n c).2) hsB
  have hD : ∀ k, 0 ≤ (agD M u n c k).2 := drawC_ok h2 iB
  obtain ⟨m0, m1⟩ := nK_range (k := 1000) (x := (agD M u n c 1).1) (drawC_x 0) (by decide) (by decide)
  obtain ⟨r0, r1⟩ := nK_range (k := 8) (x := (agD M u n c 2).1) (drawC_x 1) (by decide) (by decide)
  obtain ⟨s0, s1⟩ := nK_range (k := 4) (x := (agD M u n c 3).1) (drawC_x 2) (by decide) (by decide)
  have rA := rngB_cellsI (n := 32) hA
  have rB := rngB_cellsI (n := 32) hB
  have rP := rngB_cellsI (n := 32) (prF_range (agA M u n c).1 nine)
  have rQ := rngB_cellsI (n := 32) (prF_range (agB M u n c).1 nine)
  have rC := rngB_cellsI (n := 32) (changedA_has hA (nK 8 (agD M u n c 2).1) (nK 4 (agD M u n c 3).1))
  have rR := rngB_cellsI (n := 32) (changedP_has (prF_range (agB M u n c).1 nine))
  have eXY : agX M u n c = agY M u n c := prF_agree _ _
  have eZX : agZ M u n c = agX M u n c := prF_changed hA (prF_range (agB M u n c).1 nine) r0 r1 s0 s1
  have i64 : ∀ v : Int, 0 ≤ v → v ≤ 100000 → IntKind.i64.wrap v = v := fun v a b => Ab.wrap_i64 (by omega) (by omega)
  have hm : 0 ≤ agM M u n c ∧ agM M u n c < 1000 := ⟨m0, m1⟩
  have hAB : ∀ a b : Bool, a = true → b = true → (a && b) = true := fun a b x y => by rw [x, y]; rfl
  unfold pins7
  refine held_two (held_two (held_two (held_two (held_two (held_cons ?_ (held_cons h (held_one hsB))) (dPin_held h1 (hD 0) (by decide))) ?_) (dPin_held h1 (hD 1) (by decide))) (dPin_held h1 (hD 2) (by decide))) ?_
  · rw [decide_eq_false_iff_not]; omega
  · refine held_cons rA (held_cons rB (held_cons (hAB _ _ rA rQ) (held_cons (hAB _ _ rB rP) (held_cons ?_ (held_cons (by simp) (held_cons ?_ (held_cons ?_ (held_one ?_))))))))
    · rw [eXY, andN_true fun j _ _ => rfl]; rfl
    · rw [i64 (agM M u n c + 1) (by omega) (by omega), i64 (agM M u n c + 1 + 1) (by omega) (by omega), i64 (agM M u n c + 2) (by omega) (by omega)]; simp; omega
    · rw [i64 (agM M u n c + 1) (by omega) (by omega), i64 (agM M u n c + 1 + 1) (by omega) (by omega), i64 (agM M u n c + 1 + 1 + 1) (by omega) (by omega), i64 (agM M u n c + 3) (by omega) (by omega)]; simp; omega
    · rw [i64 (agM M u n c + 1) (by omega) (by omega), i64 (agM M u n c + 1 + 1) (by omega) (by omega), i64 (agM M u n c + 1 + 1 + 1) (by omega) (by omega), i64 (agM M u n c + 1 + 1 + 1 + 1) (by omega) (by omega), i64 (agM M u n c + 4) (by omega) (by omega)]; simp; omega
  · refine held_cons (hAB _ _ rC rR) (held_cons (hAB _ _ rC rR) (held_cons ?_ (held_one (andN_true fun j _ _ => rfl))))
    rw [eZX]
    exact andN_true fun j _ _ => rfl

theorem run7 (W : World) (base : Nat) (v0 : Value) (h0 : Value.okWide Try.prog W .any base 26 v0) {H : Type} {enc : TypeId × Value → H} {d : DataW H} {p : List MemPlace} (hd : DataW.Trod enc Try.prog W 0 (fun _ => true) true 26 v0 d p) :
    groundL [v0] = true ∧ ∃ ns, ACalls Try.prog (memOf W) 7 [v0] [] (.bool true) [] ns := by
  rcases slice_arg (e := 5) Try.underlying26 Try.underlying5 (by kernel_rfl) h0 hd with rfl | ⟨b, off, n, c, x, rfl, hc, _, hx⟩
  · exact ⟨rfl, [], acalls_of_evFC (L7_sound _) mix Try.func7 (r7z _) (pins7_held _ none 0 0 (srcOk_iff.2 ⟨rfl, by decide, by decide⟩))⟩
  · refine ⟨rfl, [], ?_⟩
    by_cases hn : n ≤ 1048576
    · exact acalls_of_evFC (L7_sound _) mix Try.func7 (r7s _ b off n c) (pins7_held _ (some (b, off)) n c (srcOk_iff.2 ⟨nOk_ro hx, hn, by decide⟩))
    · exact acalls_of_evFC (L7_sound _) mix Try.func7 (r7l _ b off n c) (held_one (by rw [decide_eq_true_eq]; omega))

set_option maxRecDepth 100000 in
theorem FnAgree_lifted (os : Os) (started : os.Started) (H : Type) (enc : TypeId × Value → H) :
    ReturnsInHanded {} Try.checked os 7 .any (Rows.fnAgreeSpec.pre6 enc Try.prog Try.f7 Rows.fnAgreeRow.domain false) (Rows.fnAgreeSpec.post enc Try.prog Try.f7 false true false false) :=
  lifted own (by kernel_rfl) Try.func7 (tb := 4) (by kernel_rfl) Try.underlying4 (by kernel_rfl) rfl (fun H ds h => by
      obtain ⟨_, rfl⟩ := len1 (l := ds) (h.trans (by kernel_rfl)); rfl)
    (fun W base H enc args ds ps h hv => by
      rw [show Try.f7.params = _ from Try.params7] at h hv
      obtain ⟨v0, d0, rfl, rfl, h0⟩ := Go.ChangeShapes.trodAll_one h
      exact run7 W base v0 (hv 0 _ v0 rfl rfl) h0) os started enc
    (ChangeSpec.witness6 (enc := enc) (C := Try.checked) false ⟨#[], #[(.slice none 0 0)], []⟩ 64 (by kernel_rfl) (by kernel_rfl) (by kernel_rfl) (by kernel_rfl))

set_option maxRecDepth 100000 in
/-- The statement. -/
theorem FnAgree_holds : Rows.FnAgreeSaid :=
  OpenClaim.holds_of_wide 7 Try.f7 rfl rfl rfl rfl rfl rfl rfl ⟨rfl, rfl, rfl, rfl, rfl⟩ rfl rfl rfl rfl rfl (by kernel_rfl) Try.func7 (by kernel_rfl)
    (of_decide_eq_true (by kernel_rfl)) (by unfold Func.isWrapper; first | (rw [if_pos (by decide +kernel)]; kernel_rfl) | (rw [if_neg (by decide +kernel)]; exact ⟨rfl, rfl⟩))
    (fun os started H enc _ => FnAgree_lifted os started H enc)


end Go.Proofs.Ytjdckgnpocnifaa
