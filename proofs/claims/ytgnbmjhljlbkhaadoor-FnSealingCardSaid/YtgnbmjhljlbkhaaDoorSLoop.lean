/- The specification's Poly1305: its loop.
   Conditions: bytes in range; r below 2^124. -/
import Derived.Test.YtgnbmjhljlbkhaaDoorGA
import Derived.Test.YtgnbmjhljlbkhaaDoorSStep
open Go.Ab Go.Num
set_option linter.unusedVariables false
set_option linter.unusedSimpArgs false
namespace Go.Proofs.YtgnbmjhljlbkhaaDoor

def orcS (m : Nat) : List Bool := true :: (List.replicate m true ++ bif Nat.beq m 16 then [] else [false])
def zAcc : Option AObj := some ⟨cellsI .i64 17 (fun _ => 0), true, 1, true⟩

theorem stepS1 (M : Mem) (f s n c : Nat) (at0 : Int) (cells : List Value) (q : Nat → AObj) (acc r : Nat → Int) (z : Nat → Value) (m : Nat) (h1 : 1 ≤ m) (h2 : m ≤ 16) :
   viewK liveS [24] 21 3 (evU Tryd.prog M (ovX Tryd.prog M) [81, 82] [(6, mkHook Tryd.prog M 6 (.loop loopA) 154 liveA hookA1 liveA)] [modSum 69] [54, 71] 3000 loopS ⟨mkT 154 liveS (vsS f s n c at0 20 17 17) z, hsS cells r q [some ⟨cellsI .i64 17 acc, true, 1, true⟩]⟩ (orcS m))
   = some (.normal, vsS f s n c (IntKind.i64.wrap (at0 + 16)) 21 40 40, hsS cells r q [some ⟨cellsI .i64 17 acc, true, 1, true⟩, some ⟨cellsI .i64 40 (newS m acc r cells f at0), true, 1, true⟩], 154, stepPins cells f s n at0 m acc r) := by
  have hm : m = 1 ∨ m = 2 ∨ m = 3 ∨ m = 4 ∨ m = 5 ∨ m = 6 ∨ m = 7 ∨ m = 8 ∨ m = 9 ∨ m = 10 ∨ m = 11 ∨ m = 12 ∨ m = 13 ∨ m = 14 ∨ m = 15 ∨ m = 16 := by omega
  rcases hm with rfl | rfl | rfl | rfl | rfl | rfl | rfl | rfl | rfl | rfl | rfl | rfl | rfl | rfl | rfl | rfl
  · exact stepS1_1 M f s n c at0 cells q acc r z
  · exact stepS1_2 M f s n c at0 cells q acc r z
  · exact stepS1_3 M f s n c at0 cells q acc r z
  · exact stepS1_4 M f s n c at0 cells q acc r z
  · exact stepS1_5 M f s n c at0 cells q acc r z
  · exact stepS1_6 M f s n c at0 cells q acc r z
  · exact stepS1_7 M f s n c at0 cells q acc r z
  · exact stepS1_8 M f s n c at0 cells q acc r z
  · exact stepS1_9 M f s n c at0 cells q acc r z
  · exact stepS1_10 M f s n c at0 cells q acc r z
  · exact stepS1_11 M f s n c at0 cells q acc r z
  · exact stepS1_12 M f s n c at0 cells q acc r z
  · exact stepS1_13 M f s n c at0 cells q acc r z
  · exact stepS1_14 M f s n c at0 cells q acc r z
  · exact stepS1_15 M f s n c at0 cells q acc r z
  · exact stepS1_16 M f s n c at0 cells q acc r z

theorem stepS2 (M : Mem) (f s n c : Nat) (at0 : Int) (cells : List Value) (q : Nat → AObj) (acc r : Nat → Int) (z : Nat → Value) (m : Nat) (h1 : 1 ≤ m) (h2 : m ≤ 16) :
   viewK liveS [25] 21 3 (evU Tryd.prog M (ovX Tryd.prog M) [81, 82] [(6, mkHook Tryd.prog M 6 (.loop loopA) 154 liveA hookA2 liveA)] [modSum 69] [54, 71] 3000 loopS ⟨mkT 154 liveS (vsS f s n c at0 21 40 40) z, hsS cells r q [ob (q 20), some ⟨cellsI .i64 40 acc, true, 1, true⟩]⟩ (orcS m))
   = some (.normal, vsS f s n c (IntKind.i64.wrap (at0 + 16)) 21 40 40, hsS cells r q [ob (q 20), some ⟨cellsI .i64 40 (newS m acc r cells f at0), true, 1, true⟩], 154, stepPins cells f s n at0 m acc r) := by
  have hm : m = 1 ∨ m = 2 ∨ m = 3 ∨ m = 4 ∨ m = 5 ∨ m = 6 ∨ m = 7 ∨ m = 8 ∨ m = 9 ∨ m = 10 ∨ m = 11 ∨ m = 12 ∨ m = 13 ∨ m = 14 ∨ m = 15 ∨ m = 16 := by omega
  rcases hm with rfl | rfl | rfl | rfl | rfl | rfl | rfl | rfl | rfl | rfl | rfl | rfl | rfl | rfl | rfl | rfl
  · exact stepS2_1 M f s n c at0 cells q acc r z
  · exact stepS2_2 M f s n c at0 cells q acc r z
  · exact stepS2_3 M f s n c at0 cells q acc r z
  · exact stepS2_4 M f s n c at0 cells q acc r z
  · exact stepS2_5 M f s n c at0 cells q acc r z
  · exact stepS2_6 M f s n c at0 cells q acc r z
  · exact stepS2_7 M f s n c at0 cells q acc r z
  · exact stepS2_8 M f s n c at0 cells q acc r z
  · exact stepS2_9 M f s n c at0 cells q acc r z
  · exact stepS2_10 M f s n c at0 cells q acc r z
  · exact stepS2_11 M f s n c at0 cells q acc r z
  · exact stepS2_12 M f s n c at0 cells q acc r z
  · exact stepS2_13 M f s n c at0 cells q acc r z
  · exact stepS2_14 M f s n c at0 cells q acc r z
  · exact stepS2_15 M f s n c at0 cells q acc r z
  · exact stepS2_16 M f s n c at0 cells q acc r z

set_option maxRecDepth 100000 in
theorem lastS (M : Mem) (f s n c : Nat) (at0 : Int) (cells : List Value) (q : Nat → AObj) (x : List (Option AObj)) (r : Nat → Int) (z : Nat → Value) :
   viewU liveS (evU Tryd.prog M (ovX Tryd.prog M) [81, 82] [] [] [54, 71] 300 loopS ⟨mkT 154 liveS (vsS f s n c at0 21 40 40) z, hsS cells r q x⟩ [false])
   = some (.exit 2, vsS f s n c at0 21 40 40, hsS cells r q x, 154, [(decide (at0 < n), false)]) := by kernel_rfl

/-- What stands in the loop behind i rounds. -/
def stV (f s n c i : Nat) : List Value := bif Nat.beq i 0 then vsS f s n c 0 20 17 17 else vsS f s n c ((16 * i : Nat) : Int) 21 40 40
def stH (cells : List Value) (r : Nat → Int) (q : Nat → AObj) (f n i : Nat) : AHeap := bif Nat.beq i 0 then hsS cells r q [zAcc] else hsS cells r q [zAcc, some ⟨cellsI .i64 40 (accD r cells f n i), true, 1, true⟩]

theorem roundS (M : Mem) {cells : List Value} {r : Nat → Int} {f s n c : Nat} (hd : dataB cells s f n c = true) (hr : Dg 256 16 r) (hv : val 256 r 16 ≤ rBig) (q : Nat → AObj) {i : Nat} (hi : i < (n + 15) / 16) (z : Nat → Value) :
    ∃ z', BigK 21 Tryd.prog M loopS ⟨mkT 154 liveS (stV f s n c i) z, stH cells r q f n i⟩ .normal ⟨mkT 154 liveS (stV f s n c (i + 1)) z', stH cells r q f n (i + 1)⟩ := by
  obtain ⟨_, _, _, hn, _⟩ := dataB_iff.1 hd
  obtain ⟨a1, a2, a3, a4⟩ := accD_ok hd hr hv (i := i) (by omega)
  have hp := stepPins_held hd (i := i) (by omega) a1 hr (by rw [a2]; exact accN_bound hd hr hv (by omega))
  have m1 : 1 ≤ mS n i := by unfold mS; omega
  have m2 : mS n i ≤ 16 := Nat.min_le_left _ _
  have e : IntKind.i64.wrap (((16 * i : Nat) : Int) + 16) = ((16 * (i + 1) : Nat) : Int) := by rw [Ab.wrap_i64 (by omega) (by omega)]; omega
  cases i with
  | zero =>
    have h := bigK_view (ovX_ok _ _) (consC (modS M) nilC) mix (hookA1_ok M _ occA') (stepS1 M f s n c ((16 * 0 : Nat) : Int) cells q (accD r cells f n 0) r z (mS n 0) m1 m2) hp
    rw [e] at h
    exact h
  | succ j =>
    have h := bigK_view (ovX_ok _ _) (consC (modS M) nilC) mix (hookA2_ok M _ occA') (stepS2 M f s n c ((16 * (j + 1) : Nat) : Int) cells (fun k => bif Nat.beq k 20 then ⟨cellsI .i64 17 (fun _ => 0), true, 1, true⟩ else q k) (accD r cells f n (j + 1)) r z (mS n (j + 1)) m1 m2) hp
    rw [e] at h
    exact h

theorem loopSB (M : Mem) {cells : List Value} {r : Nat → Int} {f s n c : Nat} (hd : dataB cells s f n c = true) (hr : Dg 256 16 r) (hv : val 256 r 16 ≤ rBig) (hn0 : 0 < n) (q : Nat → AObj) (z : Nat → Value) :
    ∃ z', Big Tryd.prog M (.block 2 (.loop loopS)) ⟨mkT 154 liveS (vsS f s n c 0 20 17 17) z, hsS cells r q [zAcc]⟩ .normal
      ⟨mkT 154 liveS (vsS f s n c ((16 * ((n + 15) / 16) : Nat) : Int) 21 40 40) z', hsS cells r q [zAcc, some ⟨cellsI .i64 40 (accD r cells f n ((n + 15) / 16)), true, 1, true⟩]⟩ := by
  obtain ⟨k, hk⟩ : ∃ k, (n + 15) / 16 = k + 1 := ⟨(n + 15) / 16 - 1, by omega⟩
  obtain ⟨z', hz⟩ := loop_bigK (k := 21) (P := Tryd.prog) (M := M) (c := loopS) (N := 154) (n := (n + 15) / 16) (live := liveS) (live' := liveS) (V := stV f s n c) (H := stH cells r q f n) (e := .exit 2)
    (V' := vsS f s n c ((16 * ((n + 15) / 16) : Nat) : Int) 21 40 40) (H' := hsS cells r q [zAcc, some ⟨cellsI .i64 40 (accD r cells f n ((n + 15) / 16)), true, 1, true⟩]) (by simp) (by show (hsS cells r q [zAcc]).length ≤ 21; exact Nat.le_refl 21)
    (fun i hi z => roundS M hd hr hv q hi z)
    (fun z => by
      obtain ⟨z', h⟩ := big_view (ovX_ok _ _) nilC mix (hooksOk_nil _) (lastS M f s n c ((16 * ((n + 15) / 16) : Nat) : Int) cells q [zAcc, some ⟨cellsI .i64 40 (accD r cells f n ((n + 15) / 16)), true, 1, true⟩] r z) (held_one (by rw [decide_eq_false_iff_not]; omega))
      refine ⟨z', Big.toK ?_⟩
      have e1 : stV f s n c ((n + 15) / 16) = vsS f s n c ((16 * ((n + 15) / 16) : Nat) : Int) 21 40 40 := by rw [hk]; rfl
      have e2 : stH cells r q f n ((n + 15) / 16) = hsS cells r q [zAcc, some ⟨cellsI .i64 40 (accD r cells f n ((n + 15) / 16)), true, 1, true⟩] := by rw [hk]; rfl
      rw [e1, e2]
      exact h) z
  exact ⟨z', block_big hz⟩

def hookS (vs : List Value) (H : AHeap) : Option (AExit × List Value × AHeap × Pins) :=
  match vs, H with
  | [.slice (some ⟨0, f, some s⟩) n c, .pointer (some ⟨1, 0, some 32⟩), .pointer (some ⟨2, 0, some 16⟩), .slice (some ⟨3, 0, some 16⟩) 16 16, .slice (some ⟨20, 0, some 17⟩) 17 17, .int .i64 0], [some ⟨cells, true, 1, true⟩, some o1, some o2, some ⟨R, true, 1, true⟩, some o4, some o5, some o6, some o7, some o8, some o9, some o10, some o11, some o12, some o13, some o14, some o15, some o16, some o17, some o18, some o19, some ⟨A, true, 1, true⟩] =>
    some (.normal, vsS f s n c ((16 * ((n + 15) / 16) : Nat) : Int) 21 40 40,
      hsS cells (wd R) (([AObj.mk [] true 1 true, o1, o2, AObj.mk [] true 1 true, o4, o5, o6, o7, o8, o9, o10, o11, o12, o13, o14, o15, o16, o17, o18, o19] : List AObj).getD · ⟨[], true, 1, true⟩) [zAcc, some ⟨cellsI .i64 40 (accD (wd R) cells f n ((n + 15) / 16)), true, 1, true⟩],
      [(dataB cells s f n c, true), (decide (0 < n), true), (cellB 16 R && (leB 255 R && decide (val 256 (wd R) 16 ≤ rBig)), true), (zeroC 17 A, true), (o1.flat && (o2.flat && (o4.flat && (o5.flat && (o6.flat && (o7.flat && (o8.flat && (o9.flat && (o10.flat && (o11.flat && (o12.flat && (o13.flat && (o14.flat && (o15.flat && (o16.flat && (o17.flat && (o18.flat && (o19.flat))))))))))))))))), true)])
  | _, _ => none

theorem hookS_ok (M : Mem) : HooksOk Tryd.prog M [(2, mkHook Tryd.prog M 2 (.loop loopS) 154 liveS hookS liveS)] (Tryd.f63.body.getD .skip) := by
  refine hooks_one occS (mkHook_ok fun vs H0 e V H p z hf hp => ?_)
  unfold hookS at hf
  split at hf
  · rename_i f s n c cells o1 o2 R o4 o5 o6 o7 o8 o9 o10 o11 o12 o13 o14 o15 o16 o17 o18 o19 A
    cases hf
    have p1 := hp (_, true) (List.Mem.head _)
    have p2 := hp (_, true) (List.Mem.tail _ (List.Mem.head _))
    have p3 := hp (_, true) (List.Mem.tail _ (List.Mem.tail _ (List.Mem.head _)))
    have p4 := hp (_, true) (List.Mem.tail _ (List.Mem.tail _ (List.Mem.tail _ (List.Mem.head _))))
    have p5 := hp (_, true) (List.Mem.tail _ (List.Mem.tail _ (List.Mem.tail _ (List.Mem.tail _ (List.Mem.head _)))))
    simp only [Bool.and_eq_true, decide_eq_true_eq] at p1 p2 p3 p5
    clear hp
    obtain ⟨p6, p7, p8⟩ := p3
    obtain ⟨f1, f2, f4, f5, f6, f7, f8, f9, f10, f11, f12, f13, f14, f15, f16, f17, f18, f19⟩ := p5
    have hr : Dg 256 16 (wd R) := fun i hi => by
      rw [cellB_eq p6, leB_iff] at p7
      have := p7 i hi
      omega
    have := loopSB M p1 hr p8 p2 (([AObj.mk [] true 1 true, o1, o2, AObj.mk [] true 1 true, o4, o5, o6, o7, o8, o9, o10, o11, o12, o13, o14, o15, o16, o17, o18, o19] : List AObj).getD · ⟨[], true, 1, true⟩) z
    have ho : ∀ o : AObj, o.flat = true → ob o = some o := fun o h => by cases o; simp only at h; subst h; rfl
    have eH : hsS cells (wd R) (([AObj.mk [] true 1 true, o1, o2, AObj.mk [] true 1 true, o4, o5, o6, o7, o8, o9, o10, o11, o12, o13, o14, o15, o16, o17, o18, o19] : List AObj).getD · ⟨[], true, 1, true⟩) [zAcc] = [some ⟨cells, true, 1, true⟩, some o1, some o2, some ⟨R, true, 1, true⟩, some o4, some o5, some o6, some o7, some o8, some o9, some o10, some o11, some o12, some o13, some o14, some o15, some o16, some o17, some o18, some o19, some ⟨A, true, 1, true⟩] := by
      have e1 := cellB_eq p6
      have e2 := zeroC_eq p4
      show [some ⟨cells, true, 1, true⟩, ob o1, ob o2, some ⟨cellsI .i64 16 (wd R), true, 1, true⟩, ob o4, ob o5, ob o6, ob o7, ob o8, ob o9, ob o10, ob o11, ob o12, ob o13, ob o14, ob o15, ob o16, ob o17, ob o18, ob o19, some ⟨cellsI .i64 17 (fun _ => 0), true, 1, true⟩] = _
      rw [← e1, ← e2, ho o1 f1, ho o2 f2, ho o4 f4, ho o5 f5, ho o6 f6, ho o7 f7, ho o8 f8, ho o9 f9, ho o10 f10, ho o11 f11, ho o12 f12, ho o13 f13, ho o14 f14, ho o15 f15, ho o16 f16, ho o17 f17, ho o18 f18, ho o19 f19]
    rw [eH] at this
    exact this
  · cases hf

end Go.Proofs.YtgnbmjhljlbkhaaDoor
