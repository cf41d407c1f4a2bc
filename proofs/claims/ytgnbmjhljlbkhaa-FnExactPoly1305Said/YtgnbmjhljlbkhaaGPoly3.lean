/- The authenticator's end: the least number, the key's second half added, sixteen bytes.
   Conditions: the words are in bounds. -/
import Derived.Test.YtgnbmjhljlbkhaaGPoly2
import Derived.Test.YtgnbmjhljlbkhaaGFieldOut
set_option linter.unusedVariables false
namespace Go.Num
open Go.Ab

structure H3 where
  h0 : Int
  h1 : Int
  h2 : Int
def H3.num (h : H3) : Int := num3 h.h0 h.h1 h.h2
def H3.ok (h : H3) : Prop := IntKind.u64.has h.h0 ∧ IntKind.u64.has h.h1 ∧ 0 ≤ h.h2 ∧ h.h2 ≤ 7

/-- Five added. -/
def g5 (h : H3) : H3 := ⟨(h.h0 + 5 + 0) % 18446744073709551616, (h.h1 + 0 + (h.h0 + 5 + 0) / 18446744073709551616) % 18446744073709551616, IntKind.u64.wrap (h.h2 + (h.h1 + 0 + (h.h0 + 5 + 0) / 18446744073709551616) / 18446744073709551616)⟩
def over (h : H3) : Bool := (g5 h).h2.fdiv (2 ^ 2) != 0
def sub4 (h : H3) : H3 := ⟨(g5 h).h0, (g5 h).h1, IntKind.u64.wrap ((g5 h).h2 - 4)⟩
def rndPins (h : H3) (b : Bool) : Pins := [(addB h.h0 5 0, true), (addB h.h1 0 ((h.h0 + 5 + 0) / 18446744073709551616), true), (over h, b)]

def T2 (h : H3) (a b : Int) (j : Nat) : Int := bif Nat.blt j 8 then (h.h0 + a + 0) % 18446744073709551616 else (h.h1 + b + (h.h0 + a + 0) / 18446744073709551616) % 18446744073709551616
def sumRaw (h : H3) (a b : Int) : List Value := (List.range 16).map fun j => .int .u8 (IntKind.u8.wrap ((T2 h a b j).fdiv (2 ^ (8 * (j % 8)))))
def endPins (h : H3) (cells : List Value) (f s c : Nat) : Pins :=
  [(decide (abounds 16 c (some (.int .i64 0)) (some (.int .i64 8)) none = some (0, 8, c)), true), (eightR cells (f + 0) s, true), (Nat.ble 8 (c - 0), true), (addB h.h0 (W8 (wd cells) (f + 0)) 0, true),
   (decide (abounds 16 c (some (.int .i64 8)) (some (.int .i64 16)) none = some (8, 16, c)), true), (eightR cells (f + 8) s, true), (Nat.ble 8 (c - 8), true), (addB h.h1 (W8 (wd cells) (f + 8)) ((h.h0 + W8 (wd cells) (f + 0) + 0) / 18446744073709551616), true)]

theorem g5_num {h : H3} (ok : h.ok) : (g5 h).num = h.num + 5 ∧ IntKind.u64.has (g5 h).h0 ∧ IntKind.u64.has (g5 h).h1 ∧ 0 ≤ (g5 h).h2 ∧ (g5 h).h2 ≤ 8 := by
  obtain ⟨o1, o2, o3, o4⟩ := ok
  have := has_u64 o1; have := has_u64 o2
  unfold H3.num num3 g5
  simp only [wrap_u64]
  refine ⟨by omega, has64 (by omega) (by omega), has64 (by omega) (by omega), by omega, by omega⟩

theorem over_eq {h : H3} (ok : h.ok) : over h = decide (P130 ≤ h.num) := by
  obtain ⟨g1, g2, g3, g4, g5'⟩ := g5_num ok
  have := has_u64 g2; have := has_u64 g3
  unfold over
  rw [Int.fdiv_eq_ediv_of_nonneg _ (by decide)]
  unfold H3.num num3 at g1
  by_cases hp : P130 ≤ h.num
  · have : (g5 h).h2 / 2 ^ 2 ≠ 0 := by unfold H3.num num3 P130 at hp; omega
    rw [decide_eq_true hp]
    simpa using this
  · have : (g5 h).h2 / 2 ^ 2 = 0 := by unfold H3.num num3 P130 at hp; omega
    rw [decide_eq_false hp, this]
    rfl

theorem sub4_ok {h : H3} (ok : h.ok) (hp : P130 ≤ h.num) : (sub4 h).ok ∧ (sub4 h).num = h.num - P130 := by
  obtain ⟨g1, g2, g3, g4, g5'⟩ := g5_num ok
  have := has_u64 g2; have := has_u64 g3
  unfold H3.num num3 at g1
  have h4 : 4 ≤ (g5 h).h2 := by unfold H3.num num3 P130 at hp; omega
  have e : IntKind.u64.wrap ((g5 h).h2 - 4) = (g5 h).h2 - 4 := by rw [wrap_u64]; omega
  refine ⟨⟨g2, g3, by show 0 ≤ IntKind.u64.wrap _; rw [e]; omega, by show IntKind.u64.wrap _ ≤ 7; rw [e]; omega⟩, ?_⟩
  unfold H3.num num3 sub4
  simp only [e]
  unfold P130
  omega

theorem rnd_held {h : H3} (ok : h.ok) {b : Bool} (hb : over h = b) : Held (rndPins h b) := by
  obtain ⟨o1, o2, o3, o4⟩ := ok
  have := has_u64 o1; have := has_u64 o2
  exact held_cons (addB_iff.2 ⟨o1, ⟨by decide, by decide⟩, by omega, by omega⟩) (held_cons (addB_iff.2 ⟨o2, ⟨by decide, by decide⟩, by omega, by omega⟩) (held_one hb))

def keyB (cells : List Value) (f s : Nat) : Bool := eightR cells f s && eightR cells (f + 8) s

theorem eightR_W8 {cells : List Value} {f s : Nat} (h : eightR cells f s = true) : IntKind.u64.has (W8 (wd cells) f) := by
  simp only [eightR, Bool.and_eq_true, List.all_eq_true, List.mem_range] at h
  have := val_range (B := 256) (by decide) (d := fun i => wd cells (f + i)) (n := 8) fun i hi => by have := has_u8 (hasB_iff.1 (h.2.2 i hi)); omega
  exact has64 this.1 (by unfold W8; omega)

theorem sum_bytes {h : H3} (ok : h.ok) {a b : Int} (ha : IntKind.u64.has a) (hb : IntKind.u64.has b) : sumRaw h a b = cellsI .u8 16 fun i => (h.num + (a + 18446744073709551616 * b)) / 256 ^ i % 256 := by
  obtain ⟨o1, o2, o3, o4⟩ := ok
  have := has_u64 o1; have := has_u64 o2; have := has_u64 ha; have := has_u64 hb
  unfold sumRaw cellsI
  apply List.map_congr_left
  intro j hj
  have hj := List.mem_range.1 hj
  congr 1
  unfold T2 H3.num num3
  cases hlt : Nat.blt j 8 with
  | true =>
    have hl := Nat.blt_eq.mp hlt
    simp only [cond_true]
    rw [byte_of (by omega), show j % 8 = j by omega]
    have hm : ∀ X Y : Int, X % 18446744073709551616 = Y % 18446744073709551616 → X / 256 ^ j % 256 = Y / 256 ^ j % 256 := fun X Y e => by
      rw [← byte_of hl, ← byte_of hl, e]
    exact hm _ _ (by omega)
  | false =>
    have hl : ¬ j < 8 := fun e => by rw [Nat.blt_eq.mpr e] at hlt; cases hlt
    simp only [cond_false]
    rw [byte_of (by omega)]
    have e : (256 : Int) ^ j = 18446744073709551616 * 256 ^ (j % 8) := by
      rw [show (18446744073709551616 : Int) = 256 ^ 8 from by decide, ← Int.pow_add]; congr 1; omega
    rw [e, ← Int.ediv_ediv_of_nonneg (by omega)]
    have hm : ∀ X Y : Int, X % 18446744073709551616 = Y % 18446744073709551616 → X / 256 ^ (j % 8) % 256 = Y / 256 ^ (j % 8) % 256 := fun X Y e => by
      rw [← byte_of (show j % 8 < 8 by omega), ← byte_of (show j % 8 < 8 by omega), e]
    exact hm _ _ (by omega)

def psumSum (f : FuncId) : Sum :=
  { f := f, ro := false
    S := fun args os => match args, os with
      | [.pointer (some ⟨0, 0, some 5⟩), .slice (some ⟨1, f1, some s⟩) 16 c], [⟨[.int .u64 r0, .int .u64 r1, .int .u64 h0, .int .u64 h1, .int .u64 h2], g, e, true⟩, ⟨cells, false, e2, true⟩] =>
        some (.agg ⟨cellsI .u8 16 fun i => (num3 h0 h1 h2 % P130 + (W8 (wd cells) f1 + 18446744073709551616 * W8 (wd cells) (f1 + 8))) / 256 ^ i % 256⟩,
          [⟨if P130 ≤ num3 h0 h1 h2 then [.int .u64 r0, .int .u64 r1, .int .u64 (sub4 ⟨h0, h1, h2⟩).h0, .int .u64 (sub4 ⟨h0, h1, h2⟩).h1, .int .u64 (sub4 ⟨h0, h1, h2⟩).h2] else [.int .u64 r0, .int .u64 r1, .int .u64 h0, .int .u64 h1, .int .u64 h2], g, e, true⟩, ⟨cells, false, e2, true⟩], [])
      | _, _ => none
    C := fun args os => match args, os with
      | [_, .slice (some ⟨1, f1, some s⟩) 16 c], [⟨[.int .u64 r0, .int .u64 r1, .int .u64 h0, .int .u64 h1, .int .u64 h2], _, _, _⟩, ⟨cells, _, _, _⟩] =>
        [(hasB .u64 h0 && (hasB .u64 h1 && (decide (0 ≤ h2) && (decide (h2 ≤ 7) && decide (num3 h0 h1 h2 < 2 * P130)))), true), (keyB cells f1 s && Nat.ble 16 c, true)]
      | _, _ => [] }

end Go.Num
