/- The program's one-time authenticator: its end.
   Conditions: the words are in bounds. -/
import Derived.Test.YtgnbmjhljlbkhaaDoorGA
import Derived.Test.YtgnbmjhljlbkhaaDoorPiece
open Go.Ab Go.Num
set_option linter.unusedVariables false
set_option linter.unusedSimpArgs false
namespace Go.Proofs.YtgnbmjhljlbkhaaDoor

noncomputable def I64 (M : Mem) : Sum := inl Tryd.prog M (fns []) 1000 64 Tryd.f64
theorem I64_s (M : Mem) : (I64 M).Sound Tryd.prog M := inl_sound fns_nil mix Tryd.func64 (by kernel_rfl) (by kernel_rfl)

noncomputable def L73 (M : Mem) : List Sum := [word8Sum 71, add64Sum 75, I64 M]
theorem L73_sound (M : Mem) : ∀ s ∈ L73 M, s.SoundC Tryd.prog M := consC (wordS8 M) (consC (addS M) (consC (I64_s M).c nilC))

def stL (r0 r1 : Int) (h : H3) : List Value := [.int .u64 r0, .int .u64 r1, .int .u64 h.h0, .int .u64 h.h1, .int .u64 h.h2]

set_option maxRecDepth 100000 in
theorem rSumF (M : Mem) (r0 r1 : Int) (h : H3) (g : Bool) (e e2 f s c : Nat) (cells : List Value) : evFU Tryd.prog M (ovX Tryd.prog M) [61, 72] [] (L73 M) [40] 800 Tryd.f73 [.pointer (some ⟨0, 0, some 5⟩), .slice (some ⟨1, f, some s⟩) 16 c] [⟨stL r0 r1 h, g, e, true⟩, ⟨cells, false, e2, true⟩] [false, false, false]
   = some ((.agg ⟨sumRaw h (W8 (wd cells) (f + 0)) (W8 (wd cells) (f + 8))⟩, [⟨stL r0 r1 h, g, e, true⟩, ⟨cells, false, e2, true⟩], []), rndPins h false ++ (rndPins h false ++ (rndPins h false ++ endPins h cells f s c))) := by kernel_rfl
set_option maxRecDepth 100000 in
theorem rSumT (M : Mem) (r0 r1 : Int) (h : H3) (g : Bool) (e e2 f s c : Nat) (cells : List Value) : evFU Tryd.prog M (ovX Tryd.prog M) [61, 72] [] (L73 M) [40] 800 Tryd.f73 [.pointer (some ⟨0, 0, some 5⟩), .slice (some ⟨1, f, some s⟩) 16 c] [⟨stL r0 r1 h, g, e, true⟩, ⟨cells, false, e2, true⟩] [true, false, false]
   = some ((.agg ⟨sumRaw (sub4 h) (W8 (wd cells) (f + 0)) (W8 (wd cells) (f + 8))⟩, [⟨stL r0 r1 (sub4 h), g, e, true⟩, ⟨cells, false, e2, true⟩], []), rndPins h true ++ (rndPins (sub4 h) false ++ (rndPins (sub4 h) false ++ endPins (sub4 h) cells f s c))) := by kernel_rfl

theorem end_held {h : H3} (ok : h.ok) {cells : List Value} {f s c : Nat} (hk : keyB cells f s = true) (hc : 16 ≤ c) : Held (endPins h cells f s c) := by
  obtain ⟨o1, o2, o3, o4⟩ := ok
  simp only [keyB, Bool.and_eq_true] at hk
  have w0 := eightR_W8 hk.1
  have w1 := eightR_W8 hk.2
  have := has_u64 o1; have := has_u64 o2; have := has_u64 w0; have := has_u64 w1
  unfold endPins
  rw [Nat.add_zero]
  refine held_cons (by rw [decide_eq_true_eq]; delta abounds; simp only [bnd]; rw [if_pos (by omega)]; rfl) (held_cons hk.1 (held_cons (Nat.ble_eq_true_of_le (by omega)) (held_cons (addB_iff.2 ⟨o1, w0, by omega, by omega⟩) (held_cons ?_ (held_cons hk.2 (held_cons (Nat.ble_eq_true_of_le (by omega)) (held_one (addB_iff.2 ⟨o2, w1, by omega, by omega⟩))))))))
  rw [decide_eq_true_eq]; delta abounds; simp only [bnd]; rw [if_pos (by omega)]; rfl

theorem app_held {p q : Pins} (hp : Held p) (hq : Held q) : Held (p ++ q) := fun x hx => by
  rcases List.mem_append.1 hx with h | h
  · exact hp x h
  · exact hq x h

theorem psumS (M : Mem) : (psumSum 73).SoundC Tryd.prog M := sumC_sound Tryd.func73 (by kernel_rfl) (by kernel_rfl) fun args os v os' ns hs hp => by
  simp only [psumSum] at hs hp ⊢
  split at hs
  · rename_i f1 s c r0 r1 h0 h1 h2 g e cells e2
    cases hs
    refine ⟨?_, fun h => by cases h⟩
    have c1 : (hasB .u64 h0 && (hasB .u64 h1 && (decide (0 ≤ h2) && (decide (h2 ≤ 7) && decide (num3 h0 h1 h2 < 2 * P130))))) = true := hp (_, true) (List.Mem.head _)
    have c2 : (keyB cells f1 s && Nat.ble 16 c) = true := hp (_, true) (List.Mem.tail _ (List.Mem.head _))
    simp only [Bool.and_eq_true, hasB_iff, decide_eq_true_eq] at c1 c2
    obtain ⟨a1, a2, a3, a4, a5⟩ := c1
    have hc := Nat.le_of_ble_eq_true c2.2
    have hk := c2.1
    have hk' := hk
    simp only [keyB, Bool.and_eq_true] at hk'
    have ok : H3.ok ⟨h0, h1, h2⟩ := ⟨a1, a2, a3, a4⟩
    have hP : P130 = 1361129467683753853853498429727072845819 := rfl
    have hnum : H3.num ⟨h0, h1, h2⟩ = num3 h0 h1 h2 := rfl
    have h0' : 0 ≤ num3 h0 h1 h2 := by have := has_u64 a1; have := has_u64 a2; unfold num3; omega
    by_cases hp : P130 ≤ num3 h0 h1 h2
    · obtain ⟨ok2, n2⟩ := sub4_ok ok (by rw [hnum]; exact hp)
      have o1 : over ⟨h0, h1, h2⟩ = true := by rw [over_eq ok, hnum, decide_eq_true hp]
      have o2 : over (sub4 ⟨h0, h1, h2⟩) = false := by rw [over_eq ok2, n2, hnum, decide_eq_false_iff_not]; omega
      have := acalls_of_evFU (ovX_ok _ _) (L73_sound M) mix Tryd.func73 (hooksOk_nil _) (rSumT M r0 r1 ⟨h0, h1, h2⟩ g e e2 f1 s c cells)
        (app_held (rnd_held ok o1) (app_held (rnd_held ok2 o2) (app_held (rnd_held ok2 o2) (end_held ok2 hk hc))))
      rw [Nat.add_zero, sum_bytes ok2 (eightR_W8 hk'.1) (eightR_W8 hk'.2), n2, hnum] at this
      have a5' : num3 h0 h1 h2 < 2 * 1361129467683753853853498429727072845819 := a5
      have hp' : 1361129467683753853853498429727072845819 ≤ num3 h0 h1 h2 := hp
      have e : num3 h0 h1 h2 % P130 = num3 h0 h1 h2 - P130 := by
        show num3 h0 h1 h2 % 1361129467683753853853498429727072845819 = num3 h0 h1 h2 - 1361129467683753853853498429727072845819
        omega
      rw [e, if_pos hp]
      exact this
    · have o1 : over ⟨h0, h1, h2⟩ = false := by rw [over_eq ok, hnum, decide_eq_false hp]
      have := acalls_of_evFU (ovX_ok _ _) (L73_sound M) mix Tryd.func73 (hooksOk_nil _) (rSumF M r0 r1 ⟨h0, h1, h2⟩ g e e2 f1 s c cells)
        (app_held (rnd_held ok o1) (app_held (rnd_held ok o1) (app_held (rnd_held ok o1) (end_held ok hk hc))))
      rw [Nat.add_zero, sum_bytes ok (eightR_W8 hk'.1) (eightR_W8 hk'.2), hnum] at this
      have e : num3 h0 h1 h2 % P130 = num3 h0 h1 h2 := Int.emod_eq_of_lt h0' (by omega)
      rw [e, if_neg hp]
      exact this
  · cases hs

end Go.Proofs.YtgnbmjhljlbkhaaDoor
