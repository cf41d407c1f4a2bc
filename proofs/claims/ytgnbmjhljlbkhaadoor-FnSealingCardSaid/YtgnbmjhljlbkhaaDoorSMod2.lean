/- The specification's folding modulo 2^130 - 5: its contract.
   Conditions: the digits are in bounds. -/
import Derived.Test.YtgnbmjhljlbkhaaDoorGA
import Derived.Test.YtgnbmjhljlbkhaaDoorSMod
open Go.Ab Go.Num
set_option linter.unusedVariables false
set_option linter.unusedSimpArgs false
namespace Go.Proofs.YtgnbmjhljlbkhaaDoor

theorem hiR_eq {x : Nat → Int} (h : Dg 256 40 x) {j : Nat} (hj : j < 24) : hiR x j = q4 (yD x) j := by
  have h1 := h (16 + j) (by omega)
  have b1 : Nat.blt (16 + j) 40 = true := Nat.blt_eq.mpr (by omega)
  have e1 : yD x j = x (16 + j) := by simp [yD, b1]
  unfold hiR q4
  rw [e1, Int.tdiv_eq_ediv_of_nonneg h1.1]
  cases hb : Nat.blt (17 + j) 40 with
  | true =>
    have h2 := h (17 + j) (Nat.blt_eq.mp hb)
    have e2 : yD x (j + 1) = x (17 + j) := by
      have : 16 + (j + 1) = 17 + j := by omega
      simp [yD, this, hb]
    simp only [cond_true]
    rw [e2, Int.tmod_eq_emod_of_nonneg h2.1, w64 (n := x (17 + j) % 4 * 64) (by omega) (by omega), w64 (n := x (16 + j) / 4) (by omega) (by omega), w64 (by omega) (by omega)]
  | false =>
    have e2 : yD x (j + 1) = 0 := by
      have : 16 + (j + 1) = 17 + j := by omega
      simp [yD, this, hb]
    simp only [cond_false]
    rw [e2, w64 (n := 0 * 64) (by omega) (by omega), w64 (n := x (16 + j) / 4) (by omega) (by omega), w64 (by omega) (by omega)]
    omega

theorem lowR_eq {x : Nat → Int} (h : Dg 256 40 x) : lowR x = cellsI .i64 24 (lowF x) := cellsI_congr fun k hk => by
  have hq := q4_range h k
  have h16 := h 16 (by omega)
  have hx := h k (by omega)
  unfold lowF
  rw [hiR_eq h hk, w64 (n := 5 * q4 (yD x) k) (by omega) (by omega)]
  cases Nat.blt k 17 with
  | true =>
    simp only [cond_true]
    cases Nat.beq k 16 with
    | true => simp only [cond_true]; rw [Int.tmod_eq_emod_of_nonneg h16.1, w64 (by omega) (by omega)]
    | false => simp only [cond_false]; rw [w64 (by omega) (by omega)]
  | false => simp only [cond_false]; omega

theorem dig_cells {n : Nat} {x : Nat → Int} {K : Int} (hK : K ≤ 1000000000000000) (h : ∀ i, i < n → 0 ≤ x i ∧ x i ≤ K) : digB (cellsI .i64 n x) n n = true := digB_iff.2 ⟨cellsI_length _ _ _, Nat.le_refl _, fun i hi => by
  have := h i hi
  rw [wd_cellsI hi]
  refine ⟨by simp [atC, cellsI, hi, isI], this.1, by omega⟩⟩

theorem ext_cells {n : Nat} (x : Nat → Int) : ext (wd (cellsI .i64 n x)) n = ext x n := funext fun k => by
  unfold ext
  cases hb : Nat.blt k n with
  | true => simp only [cond_true]; exact wd_cellsI (Nat.blt_eq.mp hb)
  | false => rfl

theorem dig_dg (t : Nat → Int) (n : Nat) : Dg 256 n (dig 256 t) := fun i _ => dig_range (by decide) t i

theorem dig_val40 {t : Nat → Int} (h0 : 0 ≤ val 256 t 40) (h1 : val 256 t 40 < B40) : val 256 (dig 256 t) 40 = val 256 t 40 := by
  rw [(car_out (B := 256) (by decide)).2, B40e, Int.emod_eq_of_lt h0 h1]

theorem m1_ok {x : Nat → Int} (h : Dg 256 40 x) (h0 : 0 ≤ foldP (val 256 x 40)) (h1 : foldP (val 256 x 40) < B40) : Dg 256 40 (m1 x) ∧ val 256 (m1 x) 40 = foldP (val 256 x 40) ∧ digB (lowR x) 24 24 = true := by
  refine ⟨dig_dg _ _, ?_, ?_⟩
  · unfold m1
    rw [lowR_eq h, ext_cells]
    have e : val 256 (ext (lowF x) 24) 40 = foldP (val 256 x 40) := by rw [val_ext _ (by omega), lowF_val h]
    rw [dig_val40 (by rw [e]; exact h0) (by rw [e]; exact h1), e]
  · rw [lowR_eq h]
    exact dig_cells (K := 2000) (by omega) fun i hi => lowF_range h hi

theorem offR_eq {x : Nat → Int} (h : Dg 256 40 x) : offR x = cellsI .i64 40 (fun k => bif Nat.beq k 0 then x 0 + 5 else x k) := cellsI_congr fun k hk => by
  have := h 0 (by omega)
  cases Nat.beq k 0 with
  | true => simp only [cond_true]; rw [w64 (by omega) (by omega)]
  | false => rfl

theorem off_val (x : Nat → Int) : val 256 (fun k => bif Nat.beq k 0 then x 0 + 5 else x k) 40 = val 256 x 40 + 5 := by
  have e : (fun k => bif Nat.beq k 0 then x 0 + 5 else x k) = fun k => x k + (bif Nat.beq k 0 then 5 else 0) := funext fun k => by
    cases hb : Nat.beq k 0 with
    | true => have := Nat.eq_of_beq_eq_true hb; subst this; simp
    | false => simp
  rw [e, val_upd0 (by omega)]

def modSum (f : FuncId) : Sum :=
  { f := f, ro := true
    S := fun args os => match args, os with
      | [.slice (some ⟨0, 0, some s⟩) 40 c], [⟨cells, g, e, true⟩] =>
        some (.slice (some ⟨1, 0, some 40⟩) 17 40, [⟨cells, g, e, true⟩], [⟨cellsI .i64 40 (fun k => val 256 (wd cells) 40 % P130 / 256 ^ k % 256), true, 1, true⟩])
      | _, _ => none
    C := fun args os => match args, os with
      | [.slice (some ⟨0, 0, some s⟩) 40 c], [⟨cells, _, _, _⟩] => [(digB cells s 40, true), (decide (val 256 (wd cells) 40 < 57896044618658097711785492504343953926634992332820282019728792003956564819968), true)]
      | _, _ => [] }

theorem digits_eq {x : Nat → Int} {N : Int} (h : Dg 256 40 x) (hv : val 256 x 40 = N) : cellsI .i64 40 x = cellsI .i64 40 (fun k => N / 256 ^ k % 256) := cellsI_congr fun k hk => by
  rw [← hv]
  exact val_digit (by decide) hk h

theorem modS (M : Mem) : (modSum 69).SoundC Tryd.prog M := sumC_sound Tryd.func69 (by kernel_rfl) (by kernel_rfl) fun args os v os' ns hs hp => by
  simp only [modSum] at hs hp ⊢
  split at hs
  · rename_i s c cells g e
    cases hs
    refine ⟨?_, fun _ => rfl⟩
    have c1 : digB cells s 40 = true := hp (digB cells s 40, true) (List.Mem.head _)
    have c2 : decide (val 256 (wd cells) 40 < 57896044618658097711785492504343953926634992332820282019728792003956564819968) = true := hp (_, true) (List.Mem.tail _ (List.Mem.head _))
    have hlt := of_decide_eq_true c2
    obtain ⟨_, _, hdig⟩ := digB_iff.1 c1
    have h0 : 0 ≤ val 256 (wd cells) 40 := by
      have key : ∀ n, n ≤ 40 → 0 ≤ val 256 (wd cells) n := by
        intro n
        induction n with
        | zero => intro _; exact Int.le_refl 0
        | succ n ih =>
          intro hn
          have := (hdig n (by omega)).2.1
          exact Int.add_nonneg (ih (by omega)) (Int.mul_nonneg this (Int.le_of_lt (Int.pow_pos (by decide))))
      exact key 40 (Nat.le_refl _)
    generalize hX : val 256 (wd cells) 40 = X at *
    have hB : (57896044618658097711785492504343953926634992332820282019728792003956564819968 : Int) < B40 := by decide
    have dd0 : Dg 256 40 (d0 cells) := dig_dg _ _
    have v0 : val 256 (d0 cells) 40 = X := by
      unfold d0
      have e : val 256 (ext (wd cells) 40) 40 = X := by rw [val_ext _ (Nat.le_refl _), hX]
      rw [dig_val40 (by rw [e]; exact h0) (by rw [e]; omega), e]
    obtain ⟨f1a, f1b⟩ := foldP_lt h0 hlt
    have hB2 : (1361129467683753853853498429727072845824 + 340282366920938463463374607431768211456 : Int) < B40 := by decide
    have lt255 : ∀ {Y : Int}, Y < 1361129467683753853853498429727072845824 + 340282366920938463463374607431768211456 → Y < 57896044618658097711785492504343953926634992332820282019728792003956564819968 := fun h => by omega
    obtain ⟨q1, u1, p1⟩ := m1_ok dd0 (by rw [v0]; exact f1a) (by rw [v0]; omega)
    rw [v0] at u1
    obtain ⟨f2a, f2b⟩ := foldP_lt f1a (lt255 f1b)
    obtain ⟨q2, u2, p2⟩ := m1_ok q1 (by rw [u1]; exact f2a) (by rw [u1]; omega)
    rw [u1] at u2
    obtain ⟨f3a, f3b⟩ := foldP_lt f2a (lt255 f2b)
    obtain ⟨q3, u3, p3⟩ := m1_ok q2 (by rw [u2]; exact f3a) (by rw [u2]; omega)
    rw [u2] at u3
    obtain ⟨f4a, f4b⟩ := foldP_lt f3a (lt255 f3b)
    obtain ⟨q4', u4, p4⟩ := m1_ok q3 (by rw [u3]; exact f4a) (by rw [u3]; omega)
    rw [u3] at u4
    obtain ⟨g1, g2, g3⟩ := fold4 h0 hlt
    generalize hV : foldP (foldP (foldP (foldP X))) = V at *
    have dd4 : Dg 256 40 (d4 cells) := q4'
    have v4 : val 256 (d4 cells) 40 = V := u4
    have po : digB (offR (d4 cells)) 40 40 = true := by
      rw [offR_eq dd4]
      exact dig_cells (K := 300) (by omega) fun i hi => by
        have := dd4 0 (by omega); have := dd4 i hi
        cases Nat.beq i 0 <;> simp only [cond_true, cond_false] <;> omega
    have hpins : Held (modPins cells s) := held_cons c1 (held_cons p1 (held_cons p2 (held_cons p3 (held_cons p4 (held_one po)))))
    have do1 : Dg 256 40 (o1 (d4 cells)) := dig_dg _ _
    have vo : val 256 (o1 (d4 cells)) 40 = V + 5 := by
      unfold o1
      rw [offR_eq dd4, ext_cells]
      have e : val 256 (ext (fun k => bif Nat.beq k 0 then d4 cells 0 + 5 else d4 cells k) 40) 40 = V + 5 := by rw [val_ext _ (Nat.le_refl _), off_val, v4]
      rw [dig_val40 (by rw [e]; omega) (by rw [e]; omega), e]
    have h16 : o1 (d4 cells) 16 = (V + 5) / 340282366920938463463374607431768211456 := by
      have := val_digit (B := 256) (by decide) (d := o1 (d4 cells)) (k := 16) (n := 40) (by omega) do1
      rw [vo] at this
      have e16 : (256 : Int) ^ 16 = 340282366920938463463374607431768211456 := by decide
      rw [e16] at this
      omega
    have hP : P130 = 1361129467683753853853498429727072845819 := rfl
    rw [← g3]
    by_cases hc : o1 (d4 cells) 16 ≥ 4
    · have := acalls_of_evFC (consC (carry8S M) nilC) mix Tryd.func69 (rModT M s c e g cells) (app_held hpins (held_one (decide_eq_true hc)))
      have ez : lessR4 (o1 (d4 cells)) = cellsI .i64 40 (fun k => bif Nat.beq k 16 then o1 (d4 cells) 16 - 4 else o1 (d4 cells) k) := cellsI_congr fun k hk => by
        have := do1 16 (by omega)
        cases Nat.beq k 16 with
        | true => simp only [cond_true]; rw [w64 (by omega) (by omega)]
        | false => simp only [cond_false]
      have hz : Dg 256 40 (fun k => bif Nat.beq k 16 then o1 (d4 cells) 16 - 4 else o1 (d4 cells) k) := fun k hk => by
        have := do1 16 (by omega); have := do1 k hk
        simp only
        cases Nat.beq k 16 <;> simp only [cond_true, cond_false] <;> omega
      have vz : val 256 (fun k => bif Nat.beq k 16 then o1 (d4 cells) 16 - 4 else o1 (d4 cells) k) 40 = V % P130 := by
        have e : (fun k => bif Nat.beq k 16 then o1 (d4 cells) 16 - 4 else o1 (d4 cells) k) = upd (o1 (d4 cells)) 16 (o1 (d4 cells) 16 - 4) := rfl
        rw [e, val_upd (by omega), vo]
        have e16 : (256 : Int) ^ 16 = 340282366920938463463374607431768211456 := by decide
        rw [e16]
        show _ = V % 1361129467683753853853498429727072845819
        omega
      rw [ez] at this
      rw [← digits_eq hz vz]
      exact this
    · have := acalls_of_evFC (consC (carry8S M) nilC) mix Tryd.func69 (rModF M s c e g cells) (app_held hpins (held_one (decide_eq_false hc)))
      have vz : val 256 (d4 cells) 40 = V % P130 := by
        rw [v4]
        show V = V % 1361129467683753853853498429727072845819
        omega
      rw [← digits_eq dd4 vz]
      exact this
  · cases hs

end Go.Proofs.YtgnbmjhljlbkhaaDoor
