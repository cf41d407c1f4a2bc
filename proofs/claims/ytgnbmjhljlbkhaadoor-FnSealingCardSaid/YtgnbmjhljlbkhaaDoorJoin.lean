/- spec.l1Join.
   Conditions: bytes. -/
import Derived.Test.YtgnbmjhljlbkhaaDoorGA
import Derived.Test.YtgnbmjhljlbkhaaDoorFill
open Go.Ab Go.Num
set_option linter.unusedVariables false
set_option linter.unusedSimpArgs false
namespace Go.Proofs.YtgnbmjhljlbkhaaDoor

set_option maxRecDepth 100000 in
theorem r60 (M : Mem) (a b c d : Nat) (X Y : List Value) : evFU Tryd.prog M (ovX Tryd.prog M) [8, 11] [] [] [] 300 Tryd.f60 [.slice (some ⟨0, 0, some a⟩) a c, .slice (some ⟨1, 0, some b⟩) b d] [⟨X, true, 1, true⟩, ⟨Y, true, 1, true⟩] []
   = some ((.slice (some ⟨2, 0, some ((0 + a + b) * 1)⟩) (0 + a + b) (0 + a + b), [⟨X, true, 1, true⟩, ⟨Y, true, 1, true⟩], [⟨([] ++ (X.drop 0).take (a * 1)).take ((0 + a) * 1) ++ (Y.drop 0).take (b * 1), true, 1, true⟩]),
      [(room (0 + a) 1 && (decide (X.length = a) && (decide (0 + a * 1 ≤ a) && decide (a ≤ a))), true),
       (decide (0 + a = 0 + a) && (decide ((0 + a) * 1 = (0 + a) * 1) && (decide (([] ++ (X.drop 0).take (a * 1)).length = (0 + a) * 1) && (room (0 + a + b) 1 && (decide (Y.length = b) && (decide (0 + b * 1 ≤ b) && decide (b ≤ b)))))), true)]) := by kernel_rfl

theorem join60 (M : Mem) : (joinSum 60).SoundC Tryd.prog M := sumC_sound Tryd.func60 (by kernel_rfl) (by kernel_rfl) fun args os v os' ns hs hp => by
  simp only [joinSum] at hs hp ⊢
  split at hs
  · rename_i a' a c b' b d X Y
    cases hs
    have h : (decide (a' = a ∧ b' = b) && (wholeB a X && wholeB b Y)) = true := hp (decide (a' = a ∧ b' = b) && (wholeB a X && wholeB b Y), true) (List.Mem.head _)
    simp only [wholeB, Bool.and_eq_true, decide_eq_true_eq] at h
    obtain ⟨⟨ha, hb⟩, ⟨x1, x2⟩, y1, y2⟩ := h
    subst ha
    subst hb
    have x2 := Nat.le_of_ble_eq_true x2
    have y2 := Nat.le_of_ble_eq_true y2
    have ex := isB_eq x1
    have ey := isB_eq y1
    have lx : X.length = a' := by rw [ex, cellsI_length]
    have ly : Y.length = b' := by rw [ey, cellsI_length]
    have tx : (X.drop 0).take (a' * 1) = X := by rw [List.drop_zero, List.take_of_length_le (by omega)]
    have ty : (Y.drop 0).take (b' * 1) = Y := by rw [List.drop_zero, List.take_of_length_le (by omega)]
    have tx2 : ([] ++ (X.drop 0).take (a' * 1)).take ((0 + a') * 1) = X := by rw [tx, List.nil_append, List.take_of_length_le (by omega)]
    have := acalls_of_evFU (ovX_ok _ _) nilC mix Tryd.func60 (hooksOk_nil _) (r60 M a' b' c d X Y) (held_cons (by
        simp only [room, Bool.and_eq_true, decide_eq_true_eq]; exact ⟨by omega, lx, by omega, by omega⟩) (held_one (by
        rw [tx, List.nil_append]
        simp only [room, Bool.and_eq_true, decide_eq_true_eq]; exact ⟨trivial, trivial, by omega, by omega, ly, by omega, by omega⟩)))
    have eXY : X ++ Y = cellsI .u8 (a' + b') (catF a' (wd X) (wd Y)) := by
      rw [← cat_cells, ← ex, ← ey]
    rw [tx2, ty, eXY, show (0 + a' + b') * 1 = a' + b' by omega, Nat.zero_add] at this
    exact ⟨this, fun _ => rfl⟩
  · cases hs

end Go.Proofs.YtgnbmjhljlbkhaaDoor
