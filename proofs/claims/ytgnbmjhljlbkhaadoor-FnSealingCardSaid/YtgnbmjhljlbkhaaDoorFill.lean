/- spec.l2Fill.
   Conditions: bytes in range. -/
import Derived.Test.YtgnbmjhljlbkhaaDoorGA
import Derived.Test.YtgnbmjhljlbkhaaDoorStreamI
open Go.Ab Go.Num
set_option linter.unusedVariables false
set_option linter.unusedSimpArgs false
namespace Go.Proofs.YtgnbmjhljlbkhaaDoor

noncomputable def loopF : Code := loopOf 0 (Tryd.f61.body.getD .skip)
set_option maxRecDepth 100000 in
theorem occF : occ 0 (Tryd.f61.body.getD .skip) = [.loop loopF] := by kernel_rfl

def vsF (f s n c sp m : Nat) : List Value := [.slice (some ⟨0, f, some s⟩) n c, .slice (some ⟨1, 0, some sp⟩) m m]
def hsF (cells X : List Value) : AHeap := [some ⟨cells, true, 1, true⟩, some ⟨X, true, 1, true⟩]
def rem16 (m : Nat) : Bool := (m : Int).tmod 16 != 0

set_option maxRecDepth 100000 in
theorem stepF (M : Mem) (f s n c m : Nat) (v : Value) (cs X : List Value) (z : Nat → Value) :
   viewK liveF [] 2 0 (evU Tryd.prog M (ovX Tryd.prog M) [13] [] [] [10] 300 loopF ⟨mkT 15 liveF (vsF f s n c m m) z, hsF (v :: cs) X⟩ [true])
   = some (.normal, vsF f s n c ((m + 1) * 1) (m + 1), hsF (v :: cs) (X.take (m * 1) ++ [.int .u8 0]), 15, [(rem16 m, true), (apB X m, true)]) := by kernel_rfl

set_option maxRecDepth 100000 in
theorem lastF (M : Mem) (f s n c m : Nat) (H : AHeap) (z : Nat → Value) :
   viewU liveF (evU Tryd.prog M (ovX Tryd.prog M) [13] [] [] [10] 300 loopF ⟨mkT 15 liveF (vsF f s n c m m) z, H⟩ [false])
   = some (.exit 0, vsF f s n c m m, H, 15, [(rem16 m, false)]) := by kernel_rfl

theorem rem16_eq (m : Nat) : rem16 m = (m % 16 != 0) := by
  unfold rem16
  rw [Int.tmod_eq_emod_of_nonneg (by omega)]
  have : ((m : Int) % 16 = 0) ↔ (m % 16 = 0) := by omega
  by_cases h : m % 16 = 0
  · simp [h, this.2 h]
  · have h2 : ¬ (m : Int) % 16 = 0 := fun e => h (this.1 e)
    rw [bne_iff_ne.2 h, bne_iff_ne.2 h2]

theorem loopFB (M : Mem) {f s n c : Nat} {cells : List Value} (hd : dataB cells s f n c = true) (hn : n ≤ 1048576) (z : Nat → Value) :
    ∃ z', Big Tryd.prog M (.block 0 (.loop loopF)) ⟨mkT 15 liveF (vsF f s n c n n) z, hsF cells (cellsI .u8 n (ext (datF cells f) n))⟩ .normal
      ⟨mkT 15 liveF (vsF f s n c (padN n) (padN n)) z', hsF cells (cellsI .u8 (padN n) (ext (datF cells f) n))⟩ := by
  obtain ⟨hl, hs, _, _, _⟩ := dataB_iff.1 hd
  have hp : n ≤ padN n ∧ padN n < n + 16 ∧ padN n % 16 = 0 := by unfold padN; omega
  obtain ⟨z', hz⟩ := loop_bigK (k := 2) (P := Tryd.prog) (M := M) (c := loopF) (N := 15) (n := padN n - n) (live := liveF) (live' := liveF) (V := fun i => vsF f s n c (n + i) (n + i)) (H := fun i => hsF cells (cellsI .u8 (n + i) (ext (datF cells f) n))) (e := .exit 0)
    (V' := vsF f s n c (padN n) (padN n)) (H' := hsF cells (cellsI .u8 (padN n) (ext (datF cells f) n))) (by simp) (Nat.le_refl 2)
    (fun i hi z => by
      have hr : rem16 (n + i) = true := by rw [rem16_eq, bne_iff_ne]; unfold padN at hi; omega
      cases cells with
      | nil => simp only [List.length_nil] at hl; unfold padN at hi; omega
      | cons v cs =>
        obtain ⟨z', h⟩ := bigK_view (ovX_ok _ _) nilC mix (hooksOk_nil _) (stepF M f s n c (n + i) v cs (cellsI .u8 (n + i) (ext (datF (v :: cs) f) n)) z) (held_cons hr (held_one (apB_ok (by omega))))
        rw [ext_snoc (by omega), Nat.mul_one] at h
        exact ⟨z', h⟩)
    (fun z => by
      have e : n + (padN n - n) = padN n := by omega
      rw [e]
      obtain ⟨z', h⟩ := big_view (ovX_ok _ _) nilC mix (hooksOk_nil _) (lastF M f s n c (padN n) (hsF cells (cellsI .u8 (padN n) (ext (datF cells f) n))) z) (held_one (by rw [rem16_eq, hp.2.2]; rfl))
      exact ⟨z', Big.toK h⟩) z
  exact ⟨z', block_big hz⟩

def hookF (vs : List Value) (H : AHeap) : Option (AExit × List Value × AHeap × Pins) :=
  match vs, H with
  | [.slice (some ⟨0, f, some s⟩) n c, .slice (some ⟨1, 0, some sp⟩) m m'], [some ⟨cells, true, 1, true⟩, some ⟨X, true, 1, true⟩] =>
    some (.normal, vsF f s n c (padN n) (padN n), hsF cells (cellsI .u8 (padN n) (ext (datF cells f) n)),
      [(dataB cells s f n c && Nat.ble n 1048576, true), (decide (sp = n ∧ m = n ∧ m' = n), true), (sameB n X cells f, true)])
  | _, _ => none

theorem hookF_ok (M : Mem) : HooksOk Tryd.prog M [(0, mkHook Tryd.prog M 0 (.loop loopF) 15 liveF hookF liveF)] (Tryd.f61.body.getD .skip) := by
  refine hooks_one occF (mkHook_ok fun vs H0 e V H p z hf hp => ?_)
  unfold hookF at hf
  split at hf
  · rename_i f s n c sp m m' cells X
    cases hf
    have p1 := hp (_, true) (List.Mem.head _)
    have p2 := hp (_, true) (List.Mem.tail _ (List.Mem.head _))
    have p3 : sameB n X cells f = true := hp (_, true) (List.Mem.tail _ (List.Mem.tail _ (List.Mem.head _)))
    simp only [Bool.and_eq_true] at p1
    simp only [decide_eq_true_eq] at p2
    obtain ⟨h1, h2, h3⟩ := p2
    subst h1
    subst h2
    subst h3
    have := loopFB M p1.1 (Nat.le_of_ble_eq_true p1.2) z
    have eX := sameB_eq p3
    rw [← eX] at this
    exact this
  · cases hf

set_option maxRecDepth 100000 in
theorem r61 (M : Mem) (f s n c : Nat) (cells : List Value) : evFU Tryd.prog M (ovX Tryd.prog M) [6] [(0, mkHook Tryd.prog M 0 (.loop loopF) 15 liveF hookF liveF)] [] [] 300 Tryd.f61 [.slice (some ⟨0, f, some s⟩) n c] [⟨cells, true, 1, true⟩] []
   = some ((.slice (some ⟨1, 0, some (padN n)⟩) (padN n) (padN n), [⟨cells, true, 1, true⟩], [⟨cellsI .u8 (padN n) (ext (datF cells f) n), true, 1, true⟩]),
      [(room (0 + n) 1 && (decide (cells.length = s) && (decide (f + n * 1 ≤ s) && decide (n ≤ n))), true), (dataB cells s f n c && Nat.ble n 1048576, true), (decide ((0 + n) * 1 = n ∧ 0 + n = n ∧ 0 + n = n), true), (sameB n ([] ++ (cells.drop f).take (n * 1)) cells f, true)]) := by kernel_rfl

theorem fill61 (M : Mem) : (fillSum 61).SoundC Tryd.prog M := sumC_sound Tryd.func61 (by kernel_rfl) (by kernel_rfl) fun args os v os' ns hs hp => by
  simp only [fillSum] at hs hp ⊢
  split at hs
  · rename_i f s n c cells
    cases hs
    have h : (dataB cells s f n c && Nat.ble n 1048576) = true := hp (dataB cells s f n c && Nat.ble n 1048576, true) (List.Mem.head _)
    have h2 := Bool.and_eq_true_iff.1 h
    have hn := Nat.le_of_ble_eq_true h2.2
    obtain ⟨hl, hs2, _, _, _⟩ := dataB_iff.1 h2.1
    refine ⟨acalls_of_evFU (ovX_ok _ _) nilC mix Tryd.func61 (hookF_ok M) (r61 M f s n c cells) (held_cons ?_ (held_cons h (held_cons ?_ (held_one (sameB_take h2.1))))), fun _ => rfl⟩
    · simp only [room, Bool.and_eq_true, decide_eq_true_eq]
      exact ⟨by omega, hl, by omega, by omega⟩
    · rw [decide_eq_true_eq]; omega
  · cases hs

end Go.Proofs.YtgnbmjhljlbkhaaDoor
