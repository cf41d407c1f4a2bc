/- The specification's Poly1305 gives the tag.
   Conditions: bytes in range. -/
import Derived.Test.YtgnbmjhljlbkhaaDoorSLoop
open Go.Ab Go.Num
set_option linter.unusedVariables false
set_option linter.unusedSimpArgs false
namespace Go.Proofs.YtgnbmjhljlbkhaaDoor

def tagS (n : Nat) (acc k : Nat → Int) : List Value := cellsI .u8 16 fun i => IntKind.u8.wrap (wd (cellsI .i64 16 (dig 256 (ext (wd (cellsI .i64 n (endS acc k))) 17))) i)
def rC (k : Nat → Int) : List Value := cellsI .i64 16 (rDig k)

set_option maxRecDepth 100000 in
theorem rS0 (M : Mem) (k : Nat → Int) (f s n c : Nat) (cells : List Value) : evFU Tryd.prog M (ovX Tryd.prog M) [] [] [carry8Sum 70] [54] 3000 Tryd.f63 [.agg ⟨cellsI .u8 32 k⟩, .slice (some ⟨0, f, some s⟩) n c] [⟨cells, true, 1, true⟩] [false]
   = some ((.agg ⟨tagS 17 (fun _ => 0) k⟩, [⟨cells, true, 1, true⟩], []), [(decide ((0 : Int) < n), false), (digB (cellsI .i64 17 (endS (fun _ => 0) k)) 17 17, true)]) := by kernel_rfl
set_option maxRecDepth 100000 in
theorem rS1 (M : Mem) (k : Nat → Int) (f s n c : Nat) (cells : List Value) : evFU Tryd.prog M (ovX Tryd.prog M) [] [(2, mkHook Tryd.prog M 2 (.loop loopS) 154 liveS hookS liveS)] [carry8Sum 70] [] 3000 Tryd.f63 [.agg ⟨cellsI .u8 32 k⟩, .slice (some ⟨0, f, some s⟩) n c] [⟨cells, true, 1, true⟩] []
   = some ((.agg ⟨tagS 40 (accD (wd (rC k)) cells f n ((n + 15) / 16)) k⟩, [⟨cells, true, 1, true⟩], []),
      [(dataB cells s f n c, true), (decide (0 < n), true), (cellB 16 (rC k) && (leB 255 (rC k) && decide (val 256 (wd (rC k)) 16 ≤ rBig)), true), (true, true), (true, true), (digB (cellsI .i64 40 (endS (accD (wd (rC k)) cells f n ((n + 15) / 16)) k)) 40 17, true)]) := by kernel_rfl

theorem tagS_eq {k : Nat → Int} {N : Nat} {acc : Nat → Int} {A : Int} (hN : 17 ≤ N) (ha : Dg 256 17 acc) (hk : ∀ i, IntKind.u8.has (k i)) (hA : val 256 acc 17 = A) (h0 : 0 ≤ A ∧ A < P130) :
    tagS N acc k = cellsI .u8 16 fun i => (A + (W8 k 16 + 18446744073709551616 * W8 k 24)) / 256 ^ i % 256 := cellsI_congr fun i hi => by
  rw [wd_cellsI hi]
  exact endS_bytes ha hk hA h0 (fun i hi => wd_cellsI (by omega)) hi
theorem dig_end {k : Nat → Int} {N : Nat} {acc : Nat → Int} (hN : 17 ≤ N) (ha : Dg 256 17 acc) (hk : ∀ i, IntKind.u8.has (k i)) : digB (cellsI .i64 N (endS acc k)) N 17 = true := digB_iff.2 ⟨cellsI_length _ _ _, hN, fun i hi => by
  have := (endS_eq ha hk hi).2
  rw [wd_cellsI (by omega)]
  refine ⟨by simp [atC, cellsI, show i < N by omega, isI], this.1, by omega⟩⟩

theorem spolyS (M : Mem) : (polySum 63).SoundC Tryd.prog M := polySum_sound Tryd.func63 (by kernel_rfl) (by kernel_rfl) fun k f s n c cells hk hd => by
  obtain ⟨d1, d2⟩ := rDig_val hk
  by_cases h0 : n = 0
  · have ha : Dg 256 17 (fun _ => (0 : Int)) := fun i _ => ⟨Int.le_refl 0, by show (0 : Int) < 256; decide⟩
    have := acalls_of_evFU (ovX_ok _ _) (consC (carry8S M) nilC) mix Tryd.func63 (hooksOk_nil _) (rS0 M k f s n c cells) (held_cons (by rw [decide_eq_false_iff_not]; omega) (held_one (dig_end (Nat.le_refl 17) ha hk)))
    rw [tagS_eq (Nat.le_refl 17) ha hk (val_zero 17) ⟨Int.le_refl 0, by decide⟩] at this
    subst h0
    exact this
  · have er : ∀ i, i < 16 → wd (rC k) i = rDig k i := fun i hi => wd_cellsI hi
    have hr : Dg 256 16 (wd (rC k)) := fun i hi => by rw [er i hi]; exact d1 i hi
    have hv : val 256 (wd (rC k)) 16 = rK k := by rw [val_congr er, d2]
    have hb : val 256 (wd (rC k)) 16 ≤ rBig := by
      obtain ⟨a, b⟩ := rK_range hk
      rw [hv]
      unfold rK rBig
      omega
    obtain ⟨a1, a2, a3, a4⟩ := accD_ok hd hr hb (i := (n + 15) / 16) (by omega)
    rw [accN_end, hv] at a2 a3 a4
    have hl : leB 255 (rC k) = true := leB_iff.2 fun i hi => by have := d1 i hi; omega
    have := acalls_of_evFU (ovX_ok _ _) (consC (carry8S M) nilC) mix Tryd.func63 (hookS_ok M) (rS1 M k f s n c cells) (by
      refine held_cons hd (held_cons (by rw [decide_eq_true_eq]; omega) (held_cons ?_ (held_cons rfl (held_cons rfl (held_one (dig_end (by omega) a1 hk))))))
      rw [hl, show cellB 16 (rC k) = true from cellB_cells _ _, decide_eq_true hb]
      rfl)
    rw [tagS_eq (by omega) a1 hk a2 ⟨a3, a4⟩] at this
    exact this

end Go.Proofs.YtgnbmjhljlbkhaaDoor
