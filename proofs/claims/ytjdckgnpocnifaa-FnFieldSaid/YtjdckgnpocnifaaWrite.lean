/- The specification's l3Write: the modulus is taken off until the number is below it; its bytes.
   Conditions: the digits are in bounds. -/
import Derived.Test.YtjdckgnpocnifaaSpec2
open Go.Ab Go.Num
set_option linter.unusedVariables false
set_option linter.unusedSimpArgs false
namespace Go.Proofs.Ytjdckgnpocnifaa

noncomputable def loop20 : Code := loopOf 2 (Try.f20.body.getD .skip)
set_option maxRecDepth 100000 in
theorem occ20 : occ 2 (Try.f20.body.getD .skip) = [.loop loop20] := by kernel_rfl

def rawD (cs : List Value) (m b k : Int) : Int := IntKind.i64.wrap (IntKind.i64.wrap (vint (atC cs (0 + k.toNat * 1)) - m) - b)
def pinD (cs : List Value) (g : Bool) (e : Nat) (m b k : Int) (c0 c15 neg : Bool) : Pins :=
  [(decide (k < 16), true), (k == 0, c0), (k == 15, c15), (inB k 16, true), (ldB .i64 ⟨cs, g, e, true⟩ 16 (0 + k.toNat * 1), true), (decide (rawD cs m b k < 0), neg), (inB k 16, true), (stB ⟨cs, g, e, true⟩ 16 (0 + k.toNat * 1) 1, true)]

set_option maxRecDepth 100000 in
theorem step20_0_true (M : Mem) (cs : List Value) (g : Bool) (e : Nat) (o2 : Option AObj) (v2 : Value) (b k : Int) (z : Nat → Value) :
   viewU [1, 2, 3, 13] (evU Try.prog M (ovStd Try.prog M) [21, 22, 33] [] [] [14, 17, 19, 28] 300 loop20 ⟨mkT 56 [1, 2, 3, 13] [.pointer (some ⟨0, 0, some 16⟩), v2, .int .i64 b, .int .i64 k] z, [some ⟨cs, g, e, true⟩, o2]⟩ [true, true, false, true])
   = some (.normal, [.pointer (some ⟨0, 0, some 16⟩), v2, .int .i64 1, .int .i64 (IntKind.i64.wrap (k + 1))], [some ⟨wr cs (0 + k.toNat * 1) [.int .i64 (IntKind.i64.wrap (rawD cs 65517 b k + 65536))], g, e, true⟩, o2], 56, pinD cs g e 65517 b k true false true) := by kernel_rfl
set_option maxRecDepth 100000 in
theorem step20_0_false (M : Mem) (cs : List Value) (g : Bool) (e : Nat) (o2 : Option AObj) (v2 : Value) (b k : Int) (z : Nat → Value) :
   viewU [1, 2, 3, 13] (evU Try.prog M (ovStd Try.prog M) [21, 22, 33] [] [] [14, 17, 19, 28] 300 loop20 ⟨mkT 56 [1, 2, 3, 13] [.pointer (some ⟨0, 0, some 16⟩), v2, .int .i64 b, .int .i64 k] z, [some ⟨cs, g, e, true⟩, o2]⟩ [true, true, false, false])
   = some (.normal, [.pointer (some ⟨0, 0, some 16⟩), v2, .int .i64 0, .int .i64 (IntKind.i64.wrap (k + 1))], [some ⟨wr cs (0 + k.toNat * 1) [.int .i64 (rawD cs 65517 b k)], g, e, true⟩, o2], 56, pinD cs g e 65517 b k true false false) := by kernel_rfl
set_option maxRecDepth 100000 in
theorem step20_15_true (M : Mem) (cs : List Value) (g : Bool) (e : Nat) (o2 : Option AObj) (v2 : Value) (b k : Int) (z : Nat → Value) :
   viewU [1, 2, 3, 13] (evU Try.prog M (ovStd Try.prog M) [21, 22, 33] [] [] [14, 17, 19, 28] 300 loop20 ⟨mkT 56 [1, 2, 3, 13] [.pointer (some ⟨0, 0, some 16⟩), v2, .int .i64 b, .int .i64 k] z, [some ⟨cs, g, e, true⟩, o2]⟩ [true, false, true, true])
   = some (.normal, [.pointer (some ⟨0, 0, some 16⟩), v2, .int .i64 1, .int .i64 (IntKind.i64.wrap (k + 1))], [some ⟨wr cs (0 + k.toNat * 1) [.int .i64 (IntKind.i64.wrap (rawD cs 32767 b k + 65536))], g, e, true⟩, o2], 56, pinD cs g e 32767 b k false true true) := by kernel_rfl
set_option maxRecDepth 100000 in
theorem step20_15_false (M : Mem) (cs : List Value) (g : Bool) (e : Nat) (o2 : Option AObj) (v2 : Value) (b k : Int) (z : Nat → Value) :
   viewU [1, 2, 3, 13] (evU Try.prog M (ovStd Try.prog M) [21, 22, 33] [] [] [14, 17, 19, 28] 300 loop20 ⟨mkT 56 [1, 2, 3, 13] [.pointer (some ⟨0, 0, some 16⟩), v2, .int .i64 b, .int .i64 k] z, [some ⟨cs, g, e, true⟩, o2]⟩ [true, false, true, false])
   = some (.normal, [.pointer (some ⟨0, 0, some 16⟩), v2, .int .i64 0, .int .i64 (IntKind.i64.wrap (k + 1))], [some ⟨wr cs (0 + k.toNat * 1) [.int .i64 (rawD cs 32767 b k)], g, e, true⟩, o2], 56, pinD cs g e 32767 b k false true false) := by kernel_rfl
set_option maxRecDepth 100000 in
theorem step20_m_true (M : Mem) (cs : List Value) (g : Bool) (e : Nat) (o2 : Option AObj) (v2 : Value) (b k : Int) (z : Nat → Value) :
   viewU [1, 2, 3, 13] (evU Try.prog M (ovStd Try.prog M) [21, 22, 33] [] [] [14, 17, 19, 28] 300 loop20 ⟨mkT 56 [1, 2, 3, 13] [.pointer (some ⟨0, 0, some 16⟩), v2, .int .i64 b, .int .i64 k] z, [some ⟨cs, g, e, true⟩, o2]⟩ [true, false, false, true])
   = some (.normal, [.pointer (some ⟨0, 0, some 16⟩), v2, .int .i64 1, .int .i64 (IntKind.i64.wrap (k + 1))], [some ⟨wr cs (0 + k.toNat * 1) [.int .i64 (IntKind.i64.wrap (rawD cs 65535 b k + 65536))], g, e, true⟩, o2], 56, pinD cs g e 65535 b k false false true) := by kernel_rfl
set_option maxRecDepth 100000 in
theorem step20_m_false (M : Mem) (cs : List Value) (g : Bool) (e : Nat) (o2 : Option AObj) (v2 : Value) (b k : Int) (z : Nat → Value) :
   viewU [1, 2, 3, 13] (evU Try.prog M (ovStd Try.prog M) [21, 22, 33] [] [] [14, 17, 19, 28] 300 loop20 ⟨mkT 56 [1, 2, 3, 13] [.pointer (some ⟨0, 0, some 16⟩), v2, .int .i64 b, .int .i64 k] z, [some ⟨cs, g, e, true⟩, o2]⟩ [true, false, false, false])
   = some (.normal, [.pointer (some ⟨0, 0, some 16⟩), v2, .int .i64 0, .int .i64 (IntKind.i64.wrap (k + 1))], [some ⟨wr cs (0 + k.toNat * 1) [.int .i64 (rawD cs 65535 b k)], g, e, true⟩, o2], 56, pinD cs g e 65535 b k false false false) := by kernel_rfl
set_option maxRecDepth 100000 in
theorem last20 (M : Mem) (H : AHeap) (v2 : Value) (b k : Int) (z : Nat → Value) :
   viewU [1, 2] (evU Try.prog M (ovStd Try.prog M) [21, 22, 33] [] [] [14, 17, 19, 28] 300 loop20 ⟨mkT 56 [1, 2, 3, 13] [.pointer (some ⟨0, 0, some 16⟩), v2, .int .i64 b, .int .i64 k] z, H⟩ [false])
   = some (.exit 2, [.pointer (some ⟨0, 0, some 16⟩), v2], H, 56, [(decide (k < 16), false)]) := by kernel_rfl

/-- The digits after i rounds. -/
def mixD (x : Nat → Int) (i j : Nat) : Int := bif Nat.blt j i then dig D16 (tkP x) j else x j

theorem wr_mix {x : Nat → Int} {i : Nat} (hi : i < 16) {v : Int} (hv : v = dig D16 (tkP x) i) : wr (cellsI .i64 16 (mixD x i)) (0 + i * 1) [.int .i64 v] = cellsI .i64 16 (mixD x (i + 1)) := by
  simp only [wr, Nat.zero_add, Nat.mul_one]
  apply List.ext_getElem (by simp [cellsI])
  intro j h1 h2
  simp only [cellsI, List.length_map, List.length_range] at h2
  rw [List.getElem_set]
  by_cases hj : i = j
  · subst hj
    rw [if_pos rfl, hv]
    have : Nat.blt i (i + 1) = true := Nat.blt_eq.mpr (by omega)
    simp [cellsI, mixD, this]
  · rw [if_neg hj]
    have : Nat.blt j (i + 1) = Nat.blt j i := by
      by_cases hl : j < i
      · rw [Nat.blt_eq.mpr hl, Nat.blt_eq.mpr (show j < i + 1 by omega)]
      · have a : Nat.blt j i = false := by rw [Bool.eq_false_iff]; exact fun e => hl (Nat.blt_eq.mp e)
        have b : Nat.blt j (i + 1) = false := by rw [Bool.eq_false_iff]; exact fun e => by have := Nat.blt_eq.mp e; omega
        rw [a, b]
    simp [cellsI, mixD, this]

theorem atC_cells {k : IntKind} {n : Nat} {x : Nat → Int} {i : Nat} (hi : i < n) : atC (cellsI k n x) i = .int k (x i) := by simp [atC, cellsI, hi]

theorem step20 (M : Mem) {x : Nat → Int} (hx : Dg 65536 16 x) (g : Bool) (e : Nat) (o2 : Option AObj) (v2 : Value) {i : Nat} (hi : i < 16) (z : Nat → Value) :
    ∃ z', Big Try.prog M loop20 ⟨mkT 56 [1, 2, 3, 13] [.pointer (some ⟨0, 0, some 16⟩), v2, .int .i64 (- car D16 (tkP x) i), .int .i64 (ctr i)] z, [some ⟨cellsI .i64 16 (mixD x i), g, e, true⟩, o2]⟩ .normal
      ⟨mkT 56 [1, 2, 3, 13] [.pointer (some ⟨0, 0, some 16⟩), v2, .int .i64 (- car D16 (tkP x) (i + 1)), .int .i64 (ctr (i + 1))] z', [some ⟨cellsI .i64 16 (mixD x (i + 1)), g, e, true⟩, o2]⟩ := by
  have hc := tkP_car hx (i := i) (by omega)
  have hxi := hx i hi
  have hm : 0 ≤ mP i ∧ mP i ≤ 65535 := by unfold mP; cases Nat.beq i 0 <;> cases Nat.beq i 15 <;> simp
  have ec : car D16 (tkP x) (i + 1) = (car D16 (tkP x) i + (x i - mP i)) / 65536 := rfl
  have ed : dig D16 (tkP x) i = (car D16 (tkP x) i + (x i - mP i)) % 65536 := rfl
  have hat : atC (cellsI .i64 16 (mixD x i)) (0 + (ctr i).toNat * 1) = .int .i64 (x i) := by
    rw [ctr_nat (by omega), Nat.zero_add, Nat.mul_one, atC_cells hi]
    have : Nat.blt i i = false := by rw [Bool.eq_false_iff]; exact fun e => by have := Nat.blt_eq.mp e; omega
    simp [mixD, this]
  have hraw : rawD (cellsI .i64 16 (mixD x i)) (mP i) (- car D16 (tkP x) i) (ctr i) = car D16 (tkP x) i + (x i - mP i) := by
    unfold rawD
    rw [hat]
    simp only [vint]
    rw [w64 (n := x i - mP i) (by omega) (by omega), w64 (by omega) (by omega)]
    omega
  have hpin : ∀ (c0 c15 neg : Bool), ((ctr i == 0) = c0) → ((ctr i == 15) = c15) → decide (car D16 (tkP x) i + (x i - mP i) < 0) = neg → Held (pinD (cellsI .i64 16 (mixD x i)) g e (mP i) (- car D16 (tkP x) i) (ctr i) c0 c15 neg) := fun c0 c15 neg h0 h15 hn => by
    have hin : inB (ctr i) 16 = true := by rw [inB_iff, ctr_eq (by omega)]; omega
    refine held_cons (by rw [decide_eq_true_eq, ctr_eq (by omega)]; omega) (held_cons h0 (held_cons h15 (held_cons hin (held_cons ?_ (held_cons (by rw [hraw]; exact hn) (held_cons hin (held_one ?_)))))))
    · unfold ldB
      simp only [hat, isI, cellsI_length]
      rfl
    · simp [stB, cellsI_length, ctr_nat (show i ≤ 4611686018427387904 by omega)]; omega
  have hk0 : (ctr i == 0) = decide (i = 0) := by rw [ctr_eq (by omega)]; by_cases h : i = 0 <;> simp [h] <;> omega
  have hk15 : (ctr i == 15) = decide (i = 15) := by rw [ctr_eq (by omega)]; by_cases h : i = 15 <;> simp [h] <;> omega
  have fin : ∀ (v b' : Int) (z' : Nat → Value), v = dig D16 (tkP x) i → b' = - car D16 (tkP x) (i + 1) → 
      Big Try.prog M loop20 ⟨mkT 56 [1, 2, 3, 13] [.pointer (some ⟨0, 0, some 16⟩), v2, .int .i64 (- car D16 (tkP x) i), .int .i64 (ctr i)] z, [some ⟨cellsI .i64 16 (mixD x i), g, e, true⟩, o2]⟩ .normal
        ⟨mkT 56 [1, 2, 3, 13] [.pointer (some ⟨0, 0, some 16⟩), v2, .int .i64 b', .int .i64 (IntKind.i64.wrap (ctr i + 1))] z', [some ⟨wr (cellsI .i64 16 (mixD x i)) (0 + (ctr i).toNat * 1) [.int .i64 v], g, e, true⟩, o2]⟩ →
      ∃ z', Big Try.prog M loop20 ⟨mkT 56 [1, 2, 3, 13] [.pointer (some ⟨0, 0, some 16⟩), v2, .int .i64 (- car D16 (tkP x) i), .int .i64 (ctr i)] z, [some ⟨cellsI .i64 16 (mixD x i), g, e, true⟩, o2]⟩ .normal
        ⟨mkT 56 [1, 2, 3, 13] [.pointer (some ⟨0, 0, some 16⟩), v2, .int .i64 (- car D16 (tkP x) (i + 1)), .int .i64 (ctr (i + 1))] z', [some ⟨cellsI .i64 16 (mixD x (i + 1)), g, e, true⟩, o2]⟩ := fun v b' z' hv hb h => by
    rw [ctr_nat (by omega), wr_mix hi hv, hb] at h
    exact ⟨z', h⟩
  by_cases hneg : car D16 (tkP x) i + (x i - mP i) < 0
  · have hn : decide (car D16 (tkP x) i + (x i - mP i) < 0) = true := decide_eq_true hneg
    have hw : IntKind.i64.wrap (rawD (cellsI .i64 16 (mixD x i)) (mP i) (- car D16 (tkP x) i) (ctr i) + 65536) = dig D16 (tkP x) i := by rw [hraw, w64 (by omega) (by omega), ed]; omega
    have hb : (1 : Int) = - car D16 (tkP x) (i + 1) := by rw [ec]; omega
    by_cases h0 : i = 0
    · subst h0
      obtain ⟨z', h⟩ := big_view (ovStd_ok _ _) nilC mix (hooksOk_nil _) (step20_0_true M _ g e o2 v2 _ _ z) (hpin _ _ _ rfl rfl hn)
      exact fin _ _ z' hw hb h
    · by_cases h15 : i = 15
      · subst h15
        obtain ⟨z', h⟩ := big_view (ovStd_ok _ _) nilC mix (hooksOk_nil _) (step20_15_true M _ g e o2 v2 _ _ z) (hpin _ _ _ (by rw [hk0]; rfl) (by rw [hk15]; rfl) hn)
        exact fin _ _ z' hw hb h
      · have hmi : mP i = 65535 := by
          have a : Nat.beq i 0 = false := by rw [Bool.eq_false_iff]; exact fun e => h0 (Nat.eq_of_beq_eq_true e)
          have b : Nat.beq i 15 = false := by rw [Bool.eq_false_iff]; exact fun e => h15 (Nat.eq_of_beq_eq_true e)
          simp [mP, a, b]
        rw [hmi] at hpin hw hn
        obtain ⟨z', h⟩ := big_view (ovStd_ok _ _) nilC mix (hooksOk_nil _) (step20_m_true M _ g e o2 v2 _ _ z) (hpin _ _ _ (by rw [hk0]; simp [h0]) (by rw [hk15]; simp [h15]) hn)
        exact fin _ _ z' hw hb h
  · have hn : decide (car D16 (tkP x) i + (x i - mP i) < 0) = false := decide_eq_false hneg
    have hw : rawD (cellsI .i64 16 (mixD x i)) (mP i) (- car D16 (tkP x) i) (ctr i) = dig D16 (tkP x) i := by rw [hraw, ed]; omega
    have hb : (0 : Int) = - car D16 (tkP x) (i + 1) := by rw [ec]; omega
    by_cases h0 : i = 0
    · subst h0
      obtain ⟨z', h⟩ := big_view (ovStd_ok _ _) nilC mix (hooksOk_nil _) (step20_0_false M _ g e o2 v2 _ _ z) (hpin _ _ _ rfl rfl hn)
      exact fin _ _ z' hw hb h
    · by_cases h15 : i = 15
      · subst h15
        obtain ⟨z', h⟩ := big_view (ovStd_ok _ _) nilC mix (hooksOk_nil _) (step20_15_false M _ g e o2 v2 _ _ z) (hpin _ _ _ (by rw [hk0]; rfl) (by rw [hk15]; rfl) hn)
        exact fin _ _ z' hw hb h
      · have hmi : mP i = 65535 := by
          have a : Nat.beq i 0 = false := by rw [Bool.eq_false_iff]; exact fun e => h0 (Nat.eq_of_beq_eq_true e)
          have b : Nat.beq i 15 = false := by rw [Bool.eq_false_iff]; exact fun e => h15 (Nat.eq_of_beq_eq_true e)
          simp [mP, a, b]
        rw [hmi] at hpin hw hn
        obtain ⟨z', h⟩ := big_view (ovStd_ok _ _) nilC mix (hooksOk_nil _) (step20_m_false M _ g e o2 v2 _ _ z) (hpin _ _ _ (by rw [hk0]; simp [h0]) (by rw [hk15]; simp [h15]) hn)
        exact fin _ _ z' hw hb h

/-- The loop that takes the modulus off. -/
def hook20 (vs : List Value) (H : AHeap) : Option (AExit × List Value × AHeap × Pins) :=
  match vs, H with
  | [.pointer (some ⟨0, 0, some 16⟩), v2, .int .i64 b, .int .i64 k], [some ⟨cs, g, e, true⟩, o2] =>
    if isD cs then some (.normal, [.pointer (some ⟨0, 0, some 16⟩), v2], [some ⟨cellsI .i64 16 (dig D16 (tkP (wd cs))), g, e, true⟩, o2], [(decide (b = 0), true), (decide (k = 0), true), (leB 65535 cs, true)]) else none
  | _, _ => none

theorem hook20_ok (M : Mem) : HooksOk Try.prog M [(2, mkHook Try.prog M 2 (.loop loop20) 56 [1, 2] hook20 [1, 2, 3, 13])] (Try.f20.body.getD .skip) := by
  refine hooks_one occ20 (mkHook_ok fun vs H0 e V H p z hf hp => ?_)
  unfold hook20 at hf
  split at hf
  · rename_i v2 b k cs g e2 o2
    split at hf
    · rename_i hA
      cases hf
      have hb : b = 0 := by have := hp (decide (b = 0), true) (List.Mem.head _); simpa using this
      have hk : k = 0 := by have := hp (decide (k = 0), true) (List.Mem.tail _ (List.Mem.head _)); simpa using this
      have hl : leB 65535 cs = true := hp (leB 65535 cs, true) (List.Mem.tail _ (List.Mem.tail _ (List.Mem.head _)))
      subst hb hk
      have hd := leB_d hA hl
      have hx : Dg 65536 16 (wd cs) := fun i hi => by have := hd i hi; omega
      obtain ⟨z', hz⟩ := loop_big (n := 16) (live := [1, 2, 3, 13]) (live' := [1, 2]) (V := fun i => [.pointer (some ⟨0, 0, some 16⟩), v2, .int .i64 (- car D16 (tkP (wd cs)) i), .int .i64 (ctr i)]) (H := fun i => [some ⟨cellsI .i64 16 (mixD (wd cs) i), g, e2, true⟩, o2]) (e := .exit 2) (by simp)
        (fun i hi z => step20 M hx g e2 o2 v2 hi z)
        (fun z => big_view (ovStd_ok _ _) nilC mix (hooksOk_nil _) (last20 M _ v2 _ (ctr 16) z) (held_one (by rw [ctr_eq (by omega)]; rfl))) z
      have h0 : cellsI .i64 16 (mixD (wd cs) 0) = cs := by
        rw [isD_eq hA]
        exact cellsI_congr fun i hi => by simp [mixD, Nat.blt, Nat.ble, wd_cellsI hi]
      have h16 : cellsI .i64 16 (mixD (wd cs) 16) = cellsI .i64 16 (dig D16 (tkP (wd cs))) := cellsI_congr fun i hi => by
        have : Nat.blt i 16 = true := Nat.blt_eq.mpr hi
        simp [mixD, this]
      rw [h16] at hz
      simp only [h0] at hz
      have z0 : mkT 56 [1, 2, 3, 13] [.pointer (some ⟨0, 0, some 16⟩), v2, .int .i64 (- car D16 (tkP (wd cs)) 0), .int .i64 (ctr 0)] z = mkT 56 [1, 2, 3, 13] [.pointer (some ⟨0, 0, some 16⟩), v2, .int .i64 0, .int .i64 0] z := rfl
      rw [z0] at hz
      exact ⟨z', block_big hz⟩
    · cases hf
  · cases hf

end Go.Proofs.Ytjdckgnpocnifaa
