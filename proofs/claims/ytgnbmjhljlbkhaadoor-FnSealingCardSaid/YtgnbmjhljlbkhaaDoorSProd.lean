/- The specification's Poly1305: the product of the sum and of r, digit by digit (the double loop).
   Conditions: the digits are in bounds. -/
import Derived.Test.YtgnbmjhljlbkhaaDoorGA
import Derived.Test.YtgnbmjhljlbkhaaDoorSMod2
open Go.Ab Go.Num
set_option linter.unusedVariables false
set_option linter.unusedSimpArgs false
namespace Go.Proofs.YtgnbmjhljlbkhaaDoor

noncomputable def loopA : Code := loopOf 6 (Tryd.f63.body.getD .skip)
noncomputable def loopB : Code := loopOf 8 (Tryd.f63.body.getD .skip)
set_option maxRecDepth 100000 in
theorem occA : occ 6 (Tryd.f63.body.getD .skip) = [.loop loopA] := by kernel_rfl
set_option maxRecDepth 100000 in
theorem occB : occ 8 loopA = [.loop loopB] := by kernel_rfl
def slR : Value := .slice (some ⟨3, 0, some 16⟩) 16 16
def prodX (s : Nat → Int) (i : Int) : Int := vint (atC (cellsI .i64 19 s) (0 + i.toNat * 1))

def slS1 : Value := .slice (some ⟨21, 0, some 19⟩) 19 19
def slP1 : Value := .slice (some ⟨23, 0, some 40⟩) 40 40
structure Os1 where
  o0 : AObj
  o1 : AObj
  o2 : AObj
  o4 : AObj
  o5 : AObj
  o6 : AObj
  o7 : AObj
  o8 : AObj
  o9 : AObj
  o10 : AObj
  o11 : AObj
  o12 : AObj
  o13 : AObj
  o14 : AObj
  o15 : AObj
  o16 : AObj
  o17 : AObj
  o18 : AObj
  o19 : AObj
  o20 : AObj
  o22 : AObj
def hp1 (q : Os1) (r s z : Nat → Int) : AHeap :=
  [some q.o0, some q.o1, some q.o2, some ⟨cellsI .i64 16 r, true, 1, true⟩, some q.o4, some q.o5, some q.o6, some q.o7, some q.o8, some q.o9, some q.o10, some q.o11, some q.o12, some q.o13, some q.o14, some q.o15, some q.o16, some q.o17, some q.o18, some q.o19, some q.o20, some ⟨cellsI .i64 19 s, true, 1, true⟩, some q.o22, some ⟨cellsI .i64 40 z, true, 1, true⟩]
def hpW1 (q : Os1) (r s : Nat → Int) (Z : List Value) : AHeap :=
  [some q.o0, some q.o1, some q.o2, some ⟨cellsI .i64 16 r, true, 1, true⟩, some q.o4, some q.o5, some q.o6, some q.o7, some q.o8, some q.o9, some q.o10, some q.o11, some q.o12, some q.o13, some q.o14, some q.o15, some q.o16, some q.o17, some q.o18, some q.o19, some q.o20, some ⟨cellsI .i64 19 s, true, 1, true⟩, some q.o22, some ⟨Z, true, 1, true⟩]
def vsB1 (v1 v2 v4 : Value) (at0 i x j : Int) : List Value := [v1, v2, v4, .int .i64 at0, slR, slS1, slP1, slS1, .int .i64 19, .int .i64 i, .int .i64 i, .int .i64 x, slR, .int .i64 16, .int .i64 j]
def vsA1 (v1 v2 v4 : Value) (at0 i : Int) : List Value := [v1, v2, v4, .int .i64 at0, slR, slS1, slP1, slS1, .int .i64 19, .int .i64 i]

set_option maxRecDepth 100000 in
theorem stepB1 (M : Mem) (q : Os1) (r s t : Nat → Int) (v1 v2 v4 : Value) (at0 i x j : Int) (z : Nat → Value) :
   viewU liveB (evU Tryd.prog M (ovX Tryd.prog M) [107, 108, 113, 114, 119] [] [] [105] 300 loopB ⟨mkT 154 liveB (vsB1 v1 v2 v4 at0 i x j) z, hp1 q r s t⟩ [true])
   = some (.normal, vsB1 v1 v2 v4 at0 i x (IntKind.i64.wrap (j + 1)), hpW1 q r s (wr (cellsI .i64 40 t) (0 + (IntKind.i64.wrap (i + j)).toNat * 1) [.int .i64 (mulAt r t i x j)]), 154, prodPins r t i j) := by kernel_rfl
set_option maxRecDepth 100000 in
theorem lastB1 (M : Mem) (q : Os1) (r s t : Nat → Int) (v1 v2 v4 : Value) (at0 i x j : Int) (z : Nat → Value) :
   viewU liveB (evU Tryd.prog M (ovX Tryd.prog M) [107, 108, 113, 114, 119] [] [] [105] 300 loopB ⟨mkT 154 liveB (vsB1 v1 v2 v4 at0 i x j) z, hp1 q r s t⟩ [false])
   = some (.exit 8, vsB1 v1 v2 v4 at0 i x j, hp1 q r s t, 154, [(decide (j < 16), false)]) := by kernel_rfl

theorem innerB1 (M : Mem) (q : Os1) (r s t : Nat → Int) (v1 v2 v4 : Value) (at0 x : Int) (i : Nat) (hi : i < 19) (z : Nat → Value) :
    ∃ z', Big Tryd.prog M (.block 8 (.loop loopB)) ⟨mkT 154 liveB (vsB1 v1 v2 v4 at0 i x 0) z, hp1 q r s t⟩ .normal ⟨mkT 154 liveB (vsB1 v1 v2 v4 at0 i x 16) z', hp1 q r s (convI IntKind.i64.wrap (fun _ => x) r i 16 t)⟩ := by
  obtain ⟨z', hz⟩ := loop_big (P := Tryd.prog) (M := M) (c := loopB) (N := 154) (n := 16) (live := liveB) (live' := liveB) (V := fun j => vsB1 v1 v2 v4 at0 i x (j : Nat)) (H := fun j => hp1 q r s (convI IntKind.i64.wrap (fun _ => x) r i j t)) (e := .exit 8)
    (V' := vsB1 v1 v2 v4 at0 i x 16) (H' := hp1 q r s (convI IntKind.i64.wrap (fun _ => x) r i 16 t)) (by simp)
    (fun j hj z => by
      obtain ⟨z', h⟩ := big_view (ovX_ok _ _) nilC mix (hooksOk_nil _) (stepB1 M q r s (convI IntKind.i64.wrap (fun _ => x) r i j t) v1 v2 v4 at0 i x j z) (prodPins_held hi hj)
      have e1 : IntKind.i64.wrap ((j : Int) + 1) = ((j + 1 : Nat) : Int) := by rw [Ab.wrap_i64 (by omega) (by omega)]; omega
      have e2 : wr (cellsI .i64 40 (convI IntKind.i64.wrap (fun _ => x) r i j t)) (0 + (IntKind.i64.wrap ((i : Int) + j)).toNat * 1) [.int .i64 (mulAt r (convI IntKind.i64.wrap (fun _ => x) r i j t) i x j)] = cellsI .i64 40 (convI IntKind.i64.wrap (fun _ => x) r i (j + 1) t) := by
        have := offB_eq (i := i) (j := j) (by omega)
        unfold offB at this
        rw [this, wr_cellsI (by omega), mulAt_eq hi hj]
        rfl
      rw [e1, e2] at h
      exact ⟨z', h⟩)
    (fun z => big_view (ovX_ok _ _) nilC mix (hooksOk_nil _) (lastB1 M q r s _ v1 v2 v4 at0 i x 16 z) (held_one (by decide))) z
  exact ⟨z', block_big hz⟩

def hookB1 (vs : List Value) (H : AHeap) : Option (AExit × List Value × AHeap × Pins) :=
  match vs, H with
  | [v1, v2, v4, .int .i64 at0, .slice (some ⟨3, 0, some 16⟩) 16 16, .slice (some ⟨21, 0, some 19⟩) 19 19, .slice (some ⟨23, 0, some 40⟩) 40 40, .slice (some ⟨21, 0, some 19⟩) 19 19, .int .i64 19, .int .i64 i, .int .i64 i', .int .i64 x, .slice (some ⟨3, 0, some 16⟩) 16 16, .int .i64 16, .int .i64 0],
    [some o0, some o1, some o2, some ⟨R, true, 1, true⟩, some o4, some o5, some o6, some o7, some o8, some o9, some o10, some o11, some o12, some o13, some o14, some o15, some o16, some o17, some o18, some o19, some o20, some ⟨S, true, 1, true⟩, some o22, some ⟨Z, true, 1, true⟩] =>
      some (.normal, vsB1 v1 v2 v4 at0 i x 16, hp1 ⟨o0, o1, o2, o4, o5, o6, o7, o8, o9, o10, o11, o12, o13, o14, o15, o16, o17, o18, o19, o20, o22⟩ (wd R) (wd S) (convI IntKind.i64.wrap (fun _ => x) (wd R) i.toNat 16 (wd Z)),
        [(decide (0 ≤ i ∧ i < 19 ∧ i' = i), true), (cellB 16 R && (cellB 19 S && cellB 40 Z), true)])
  | _, _ => none

theorem hookB1_ok (M : Mem) : HooksOk Tryd.prog M [(8, mkHook Tryd.prog M 8 (.loop loopB) 154 liveB hookB1 liveB)] loopA := by
  refine hooks_one occB (mkHook_ok fun vs H0 e V H p z hf hp => ?_)
  unfold hookB1 at hf
  split at hf
  · rename_i v1 v2 v4 at0 i i' x o0 o1 o2 R o4 o5 o6 o7 o8 o9 o10 o11 o12 o13 o14 o15 o16 o17 o18 o19 o20 S o22 Z
    cases hf
    have a := hp (_, true) (List.Mem.head _)
    have b := hp (_, true) (List.Mem.tail _ (List.Mem.head _))
    simp only [Bool.and_eq_true, decide_eq_true_eq] at a b
    obtain ⟨a1, a2, rfl⟩ := a
    obtain ⟨b1, b2, b3⟩ := b
    obtain ⟨n, rfl⟩ := Int.eq_ofNat_of_zero_le a1
    have := innerB1 M ⟨o0, o1, o2, o4, o5, o6, o7, o8, o9, o10, o11, o12, o13, o14, o15, o16, o17, o18, o19, o20, o22⟩ (wd R) (wd S) (wd Z) v1 v2 v4 at0 x n (by omega) z
    have eH : hp1 ⟨o0, o1, o2, o4, o5, o6, o7, o8, o9, o10, o11, o12, o13, o14, o15, o16, o17, o18, o19, o20, o22⟩ (wd R) (wd S) (wd Z) = [some o0, some o1, some o2, some ⟨R, true, 1, true⟩, some o4, some o5, some o6, some o7, some o8, some o9, some o10, some o11, some o12, some o13, some o14, some o15, some o16, some o17, some o18, some o19, some o20, some ⟨S, true, 1, true⟩, some o22, some ⟨Z, true, 1, true⟩] := by
      unfold hp1
      rw [← cellB_eq b1, ← cellB_eq b2, ← cellB_eq b3]
    rw [eH] at this
    exact this
  · cases hf

set_option maxRecDepth 100000 in
theorem stepA1 (M : Mem) (q : Os1) (r s t : Nat → Int) (v1 v2 v4 : Value) (at0 : Int) (i : Nat) (z : Nat → Value) :
   viewU liveA (evU Tryd.prog M (ovX Tryd.prog M) [100, 101] [(8, mkHook Tryd.prog M 8 (.loop loopB) 154 liveB hookB1 liveB)] [] [98] 300 loopA ⟨mkT 154 liveA (vsA1 v1 v2 v4 at0 i) z, hp1 q r s t⟩ [true])
   = some (.normal, vsA1 v1 v2 v4 at0 (IntKind.i64.wrap ((i : Int) + 1)), hp1 q r s (convI IntKind.i64.wrap (fun _ => prodX s i) (wd (cellsI .i64 16 r)) i 16 (wd (cellsI .i64 40 t))), 154,
     [(decide ((i : Int) < 19), true), (inB i 19, true), (ldB .i64 ⟨cellsI .i64 19 s, true, 1, true⟩ 19 (0 + (i : Int).toNat * 1), true), (decide (0 ≤ (i : Int) ∧ (i : Int) < 19 ∧ (i : Int) = i), true), (cellB 16 (cellsI .i64 16 r) && (cellB 19 (cellsI .i64 19 s) && cellB 40 (cellsI .i64 40 t)), true)]) := by kernel_rfl
set_option maxRecDepth 100000 in
theorem lastA1 (M : Mem) (q : Os1) (r s t : Nat → Int) (v1 v2 v4 : Value) (at0 : Int) (i : Nat) (z : Nat → Value) :
   viewU liveA (evU Tryd.prog M (ovX Tryd.prog M) [100, 101] [(8, mkHook Tryd.prog M 8 (.loop loopB) 154 liveB hookB1 liveB)] [] [98] 300 loopA ⟨mkT 154 liveA (vsA1 v1 v2 v4 at0 i) z, hp1 q r s t⟩ [false])
   = some (.exit 6, vsA1 v1 v2 v4 at0 i, hp1 q r s t, 154, [(decide ((i : Int) < 19), false)]) := by kernel_rfl

theorem outerA1 (M : Mem) (q : Os1) (r s : Nat → Int) (v1 v2 v4 : Value) (at0 : Int) (z : Nat → Value) :
    ∃ z', Big Tryd.prog M (.block 6 (.loop loopA)) ⟨mkT 154 liveA (vsA1 v1 v2 v4 at0 0) z, hp1 q r s (fun _ => 0)⟩ .normal ⟨mkT 154 liveA (vsA1 v1 v2 v4 at0 19) z', hp1 q r s (convO IntKind.i64.wrap s r 16 19)⟩ := by
  obtain ⟨z', hz⟩ := loop_big (P := Tryd.prog) (M := M) (c := loopA) (N := 154) (n := 19) (live := liveA) (live' := liveA) (V := fun i => vsA1 v1 v2 v4 at0 (i : Nat)) (H := fun i => hp1 q r s (convO IntKind.i64.wrap s r 16 i)) (e := .exit 6)
    (V' := vsA1 v1 v2 v4 at0 19) (H' := hp1 q r s (convO IntKind.i64.wrap s r 16 19)) (by simp)
    (fun i hi z => by
      obtain ⟨z', h⟩ := big_view (ovX_ok _ _) nilC mix (hookB1_ok M) (stepA1 M q r s (convO IntKind.i64.wrap s r 16 i) v1 v2 v4 at0 i z) (by
        refine held_cons (by rw [decide_eq_true_eq]; omega) (held_cons (inB_iff.2 (by omega)) (held_cons ?_ (held_cons (by rw [decide_eq_true_eq]; omega) (held_one ?_))))
        · rw [show 0 + (i : Int).toNat * 1 = i by omega]; exact ld_cells (by omega)
        · rw [cellB_cells, cellB_cells, cellB_cells]; rfl)
      have e1 : IntKind.i64.wrap ((i : Int) + 1) = ((i + 1 : Nat) : Int) := by rw [Ab.wrap_i64 (by omega) (by omega)]; omega
      have e2 : cellsI .i64 40 (convI IntKind.i64.wrap (fun _ => prodX s i) (wd (cellsI .i64 16 r)) i 16 (wd (cellsI .i64 40 (convO IntKind.i64.wrap s r 16 i)))) = cellsI .i64 40 (convO IntKind.i64.wrap s r 16 (i + 1)) := cellsI_congr fun k hk => by
        have ex : prodX s i = s i := by
          unfold prodX
          rw [show 0 + (i : Int).toNat * 1 = i by omega]
          exact wd_cellsI (k := .i64) (x := s) (by omega)
        exact convI_congr (N := 40) (x := fun _ => prodX s i) (x' := s) ex (fun k hk => wd_cellsI hk) (fun k hk => wd_cellsI hk) (by omega) k hk
      have e3 : hp1 q r s (convI IntKind.i64.wrap (fun _ => prodX s i) (wd (cellsI .i64 16 r)) i 16 (wd (cellsI .i64 40 (convO IntKind.i64.wrap s r 16 i)))) = hp1 q r s (convO IntKind.i64.wrap s r 16 (i + 1)) := by
        unfold hp1
        rw [e2]
      rw [e1, e3] at h
      exact ⟨z', h⟩)
    (fun z => big_view (ovX_ok _ _) nilC mix (hookB1_ok M) (lastA1 M q r s _ v1 v2 v4 at0 19 z) (held_one (by decide))) z
  exact ⟨z', block_big hz⟩

def hookA1 (vs : List Value) (H : AHeap) : Option (AExit × List Value × AHeap × Pins) :=
  match vs, H with
  | [v1, v2, v4, .int .i64 at0, .slice (some ⟨3, 0, some 16⟩) 16 16, .slice (some ⟨21, 0, some 19⟩) 19 19, .slice (some ⟨23, 0, some 40⟩) 40 40, .slice (some ⟨21, 0, some 19⟩) 19 19, .int .i64 19, .int .i64 0],
    [some o0, some o1, some o2, some ⟨R, true, 1, true⟩, some o4, some o5, some o6, some o7, some o8, some o9, some o10, some o11, some o12, some o13, some o14, some o15, some o16, some o17, some o18, some o19, some o20, some ⟨S, true, 1, true⟩, some o22, some ⟨Z, true, 1, true⟩] =>
      some (.normal, vsA1 v1 v2 v4 at0 19, hp1 ⟨o0, o1, o2, o4, o5, o6, o7, o8, o9, o10, o11, o12, o13, o14, o15, o16, o17, o18, o19, o20, o22⟩ (wd R) (wd S) (convO IntKind.i64.wrap (wd S) (wd R) 16 19),
        [(cellB 16 R && (cellB 19 S && zeroC 40 Z), true)])
  | _, _ => none

theorem hookA1_ok (M : Mem) (code : Code) (ho : occ 6 code = [.loop loopA]) : HooksOk Tryd.prog M [(6, mkHook Tryd.prog M 6 (.loop loopA) 154 liveA hookA1 liveA)] code := by
  refine hooks_one ho (mkHook_ok fun vs H0 e V H p z hf hp => ?_)
  unfold hookA1 at hf
  split at hf
  · rename_i v1 v2 v4 at0 o0 o1 o2 R o4 o5 o6 o7 o8 o9 o10 o11 o12 o13 o14 o15 o16 o17 o18 o19 o20 S o22 Z
    cases hf
    have b := hp (_, true) (List.Mem.head _)
    simp only [Bool.and_eq_true] at b
    obtain ⟨b1, b2, b3⟩ := b
    have := outerA1 M ⟨o0, o1, o2, o4, o5, o6, o7, o8, o9, o10, o11, o12, o13, o14, o15, o16, o17, o18, o19, o20, o22⟩ (wd R) (wd S) v1 v2 v4 at0 z
    have eH : hp1 ⟨o0, o1, o2, o4, o5, o6, o7, o8, o9, o10, o11, o12, o13, o14, o15, o16, o17, o18, o19, o20, o22⟩ (wd R) (wd S) (fun _ => 0) = [some o0, some o1, some o2, some ⟨R, true, 1, true⟩, some o4, some o5, some o6, some o7, some o8, some o9, some o10, some o11, some o12, some o13, some o14, some o15, some o16, some o17, some o18, some o19, some o20, some ⟨S, true, 1, true⟩, some o22, some ⟨Z, true, 1, true⟩] := by
      unfold hp1
      rw [← cellB_eq b1, ← cellB_eq b2, ← zeroC_eq b3]
    rw [eH] at this
    exact this
  · cases hf

def slS2 : Value := .slice (some ⟨22, 0, some 19⟩) 19 19
def slP2 : Value := .slice (some ⟨24, 0, some 40⟩) 40 40
structure Os2 where
  o0 : AObj
  o1 : AObj
  o2 : AObj
  o4 : AObj
  o5 : AObj
  o6 : AObj
  o7 : AObj
  o8 : AObj
  o9 : AObj
  o10 : AObj
  o11 : AObj
  o12 : AObj
  o13 : AObj
  o14 : AObj
  o15 : AObj
  o16 : AObj
  o17 : AObj
  o18 : AObj
  o19 : AObj
  o20 : AObj
  o21 : AObj
  o23 : AObj
def hp2 (q : Os2) (r s z : Nat → Int) : AHeap :=
  [some q.o0, some q.o1, some q.o2, some ⟨cellsI .i64 16 r, true, 1, true⟩, some q.o4, some q.o5, some q.o6, some q.o7, some q.o8, some q.o9, some q.o10, some q.o11, some q.o12, some q.o13, some q.o14, some q.o15, some q.o16, some q.o17, some q.o18, some q.o19, some q.o20, some q.o21, some ⟨cellsI .i64 19 s, true, 1, true⟩, some q.o23, some ⟨cellsI .i64 40 z, true, 1, true⟩]
def hpW2 (q : Os2) (r s : Nat → Int) (Z : List Value) : AHeap :=
  [some q.o0, some q.o1, some q.o2, some ⟨cellsI .i64 16 r, true, 1, true⟩, some q.o4, some q.o5, some q.o6, some q.o7, some q.o8, some q.o9, some q.o10, some q.o11, some q.o12, some q.o13, some q.o14, some q.o15, some q.o16, some q.o17, some q.o18, some q.o19, some q.o20, some q.o21, some ⟨cellsI .i64 19 s, true, 1, true⟩, some q.o23, some ⟨Z, true, 1, true⟩]
def vsB2 (v1 v2 v4 : Value) (at0 i x j : Int) : List Value := [v1, v2, v4, .int .i64 at0, slR, slS2, slP2, slS2, .int .i64 19, .int .i64 i, .int .i64 i, .int .i64 x, slR, .int .i64 16, .int .i64 j]
def vsA2 (v1 v2 v4 : Value) (at0 i : Int) : List Value := [v1, v2, v4, .int .i64 at0, slR, slS2, slP2, slS2, .int .i64 19, .int .i64 i]

set_option maxRecDepth 100000 in
theorem stepB2 (M : Mem) (q : Os2) (r s t : Nat → Int) (v1 v2 v4 : Value) (at0 i x j : Int) (z : Nat → Value) :
   viewU liveB (evU Tryd.prog M (ovX Tryd.prog M) [107, 108, 113, 114, 119] [] [] [105] 300 loopB ⟨mkT 154 liveB (vsB2 v1 v2 v4 at0 i x j) z, hp2 q r s t⟩ [true])
   = some (.normal, vsB2 v1 v2 v4 at0 i x (IntKind.i64.wrap (j + 1)), hpW2 q r s (wr (cellsI .i64 40 t) (0 + (IntKind.i64.wrap (i + j)).toNat * 1) [.int .i64 (mulAt r t i x j)]), 154, prodPins r t i j) := by kernel_rfl
set_option maxRecDepth 100000 in
theorem lastB2 (M : Mem) (q : Os2) (r s t : Nat → Int) (v1 v2 v4 : Value) (at0 i x j : Int) (z : Nat → Value) :
   viewU liveB (evU Tryd.prog M (ovX Tryd.prog M) [107, 108, 113, 114, 119] [] [] [105] 300 loopB ⟨mkT 154 liveB (vsB2 v1 v2 v4 at0 i x j) z, hp2 q r s t⟩ [false])
   = some (.exit 8, vsB2 v1 v2 v4 at0 i x j, hp2 q r s t, 154, [(decide (j < 16), false)]) := by kernel_rfl

theorem innerB2 (M : Mem) (q : Os2) (r s t : Nat → Int) (v1 v2 v4 : Value) (at0 x : Int) (i : Nat) (hi : i < 19) (z : Nat → Value) :
    ∃ z', Big Tryd.prog M (.block 8 (.loop loopB)) ⟨mkT 154 liveB (vsB2 v1 v2 v4 at0 i x 0) z, hp2 q r s t⟩ .normal ⟨mkT 154 liveB (vsB2 v1 v2 v4 at0 i x 16) z', hp2 q r s (convI IntKind.i64.wrap (fun _ => x) r i 16 t)⟩ := by
  obtain ⟨z', hz⟩ := loop_big (P := Tryd.prog) (M := M) (c := loopB) (N := 154) (n := 16) (live := liveB) (live' := liveB) (V := fun j => vsB2 v1 v2 v4 at0 i x (j : Nat)) (H := fun j => hp2 q r s (convI IntKind.i64.wrap (fun _ => x) r i j t)) (e := .exit 8)
    (V' := vsB2 v1 v2 v4 at0 i x 16) (H' := hp2 q r s (convI IntKind.i64.wrap (fun _ => x) r i 16 t)) (by simp)
    (fun j hj z => by
      obtain ⟨z', h⟩ := big_view (ovX_ok _ _) nilC mix (hooksOk_nil _) (stepB2 M q r s (convI IntKind.i64.wrap (fun _ => x) r i j t) v1 v2 v4 at0 i x j z) (prodPins_held hi hj)
      have e1 : IntKind.i64.wrap ((j : Int) + 1) = ((j + 1 : Nat) : Int) := by rw [Ab.wrap_i64 (by omega) (by omega)]; omega
      have e2 : wr (cellsI .i64 40 (convI IntKind.i64.wrap (fun _ => x) r i j t)) (0 + (IntKind.i64.wrap ((i : Int) + j)).toNat * 1) [.int .i64 (mulAt r (convI IntKind.i64.wrap (fun _ => x) r i j t) i x j)] = cellsI .i64 40 (convI IntKind.i64.wrap (fun _ => x) r i (j + 1) t) := by
        have := offB_eq (i := i) (j := j) (by omega)
        unfold offB at this
        rw [this, wr_cellsI (by omega), mulAt_eq hi hj]
        rfl
      rw [e1, e2] at h
      exact ⟨z', h⟩)
    (fun z => big_view (ovX_ok _ _) nilC mix (hooksOk_nil _) (lastB2 M q r s _ v1 v2 v4 at0 i x 16 z) (held_one (by decide))) z
  exact ⟨z', block_big hz⟩

def hookB2 (vs : List Value) (H : AHeap) : Option (AExit × List Value × AHeap × Pins) :=
  match vs, H with
  | [v1, v2, v4, .int .i64 at0, .slice (some ⟨3, 0, some 16⟩) 16 16, .slice (some ⟨22, 0, some 19⟩) 19 19, .slice (some ⟨24, 0, some 40⟩) 40 40, .slice (some ⟨22, 0, some 19⟩) 19 19, .int .i64 19, .int .i64 i, .int .i64 i', .int .i64 x, .slice (some ⟨3, 0, some 16⟩) 16 16, .int .i64 16, .int .i64 0],
    [some o0, some o1, some o2, some ⟨R, true, 1, true⟩, some o4, some o5, some o6, some o7, some o8, some o9, some o10, some o11, some o12, some o13, some o14, some o15, some o16, some o17, some o18, some o19, some o20, some o21, some ⟨S, true, 1, true⟩, some o23, some ⟨Z, true, 1, true⟩] =>
      some (.normal, vsB2 v1 v2 v4 at0 i x 16, hp2 ⟨o0, o1, o2, o4, o5, o6, o7, o8, o9, o10, o11, o12, o13, o14, o15, o16, o17, o18, o19, o20, o21, o23⟩ (wd R) (wd S) (convI IntKind.i64.wrap (fun _ => x) (wd R) i.toNat 16 (wd Z)),
        [(decide (0 ≤ i ∧ i < 19 ∧ i' = i), true), (cellB 16 R && (cellB 19 S && cellB 40 Z), true)])
  | _, _ => none

theorem hookB2_ok (M : Mem) : HooksOk Tryd.prog M [(8, mkHook Tryd.prog M 8 (.loop loopB) 154 liveB hookB2 liveB)] loopA := by
  refine hooks_one occB (mkHook_ok fun vs H0 e V H p z hf hp => ?_)
  unfold hookB2 at hf
  split at hf
  · rename_i v1 v2 v4 at0 i i' x o0 o1 o2 R o4 o5 o6 o7 o8 o9 o10 o11 o12 o13 o14 o15 o16 o17 o18 o19 o20 o21 S o23 Z
    cases hf
    have a := hp (_, true) (List.Mem.head _)
    have b := hp (_, true) (List.Mem.tail _ (List.Mem.head _))
    simp only [Bool.and_eq_true, decide_eq_true_eq] at a b
    obtain ⟨a1, a2, rfl⟩ := a
    obtain ⟨b1, b2, b3⟩ := b
    obtain ⟨n, rfl⟩ := Int.eq_ofNat_of_zero_le a1
    have := innerB2 M ⟨o0, o1, o2, o4, o5, o6, o7, o8, o9, o10, o11, o12, o13, o14, o15, o16, o17, o18, o19, o20, o21, o23⟩ (wd R) (wd S) (wd Z) v1 v2 v4 at0 x n (by omega) z
    have eH : hp2 ⟨o0, o1, o2, o4, o5, o6, o7, o8, o9, o10, o11, o12, o13, o14, o15, o16, o17, o18, o19, o20, o21, o23⟩ (wd R) (wd S) (wd Z) = [some o0, some o1, some o2, some ⟨R, true, 1, true⟩, some o4, some o5, some o6, some o7, some o8, some o9, some o10, some o11, some o12, some o13, some o14, some o15, some o16, some o17, some o18, some o19, some o20, some o21, some ⟨S, true, 1, true⟩, some o23, some ⟨Z, true, 1, true⟩] := by
      unfold hp2
      rw [← cellB_eq b1, ← cellB_eq b2, ← cellB_eq b3]
    rw [eH] at this
    exact this
  · cases hf

set_option maxRecDepth 100000 in
theorem stepA2 (M : Mem) (q : Os2) (r s t : Nat → Int) (v1 v2 v4 : Value) (at0 : Int) (i : Nat) (z : Nat → Value) :
   viewU liveA (evU Tryd.prog M (ovX Tryd.prog M) [100, 101] [(8, mkHook Tryd.prog M 8 (.loop loopB) 154 liveB hookB2 liveB)] [] [98] 300 loopA ⟨mkT 154 liveA (vsA2 v1 v2 v4 at0 i) z, hp2 q r s t⟩ [true])
   = some (.normal, vsA2 v1 v2 v4 at0 (IntKind.i64.wrap ((i : Int) + 1)), hp2 q r s (convI IntKind.i64.wrap (fun _ => prodX s i) (wd (cellsI .i64 16 r)) i 16 (wd (cellsI .i64 40 t))), 154,
     [(decide ((i : Int) < 19), true), (inB i 19, true), (ldB .i64 ⟨cellsI .i64 19 s, true, 1, true⟩ 19 (0 + (i : Int).toNat * 1), true), (decide (0 ≤ (i : Int) ∧ (i : Int) < 19 ∧ (i : Int) = i), true), (cellB 16 (cellsI .i64 16 r) && (cellB 19 (cellsI .i64 19 s) && cellB 40 (cellsI .i64 40 t)), true)]) := by kernel_rfl
set_option maxRecDepth 100000 in
theorem lastA2 (M : Mem) (q : Os2) (r s t : Nat → Int) (v1 v2 v4 : Value) (at0 : Int) (i : Nat) (z : Nat → Value) :
   viewU liveA (evU Tryd.prog M (ovX Tryd.prog M) [100, 101] [(8, mkHook Tryd.prog M 8 (.loop loopB) 154 liveB hookB2 liveB)] [] [98] 300 loopA ⟨mkT 154 liveA (vsA2 v1 v2 v4 at0 i) z, hp2 q r s t⟩ [false])
   = some (.exit 6, vsA2 v1 v2 v4 at0 i, hp2 q r s t, 154, [(decide ((i : Int) < 19), false)]) := by kernel_rfl

theorem outerA2 (M : Mem) (q : Os2) (r s : Nat → Int) (v1 v2 v4 : Value) (at0 : Int) (z : Nat → Value) :
    ∃ z', Big Tryd.prog M (.block 6 (.loop loopA)) ⟨mkT 154 liveA (vsA2 v1 v2 v4 at0 0) z, hp2 q r s (fun _ => 0)⟩ .normal ⟨mkT 154 liveA (vsA2 v1 v2 v4 at0 19) z', hp2 q r s (convO IntKind.i64.wrap s r 16 19)⟩ := by
  obtain ⟨z', hz⟩ := loop_big (P := Tryd.prog) (M := M) (c := loopA) (N := 154) (n := 19) (live := liveA) (live' := liveA) (V := fun i => vsA2 v1 v2 v4 at0 (i : Nat)) (H := fun i => hp2 q r s (convO IntKind.i64.wrap s r 16 i)) (e := .exit 6)
    (V' := vsA2 v1 v2 v4 at0 19) (H' := hp2 q r s (convO IntKind.i64.wrap s r 16 19)) (by simp)
    (fun i hi z => by
      obtain ⟨z', h⟩ := big_view (ovX_ok _ _) nilC mix (hookB2_ok M) (stepA2 M q r s (convO IntKind.i64.wrap s r 16 i) v1 v2 v4 at0 i z) (by
        refine held_cons (by rw [decide_eq_true_eq]; omega) (held_cons (inB_iff.2 (by omega)) (held_cons ?_ (held_cons (by rw [decide_eq_true_eq]; omega) (held_one ?_))))
        · rw [show 0 + (i : Int).toNat * 1 = i by omega]; exact ld_cells (by omega)
        · rw [cellB_cells, cellB_cells, cellB_cells]; rfl)
      have e1 : IntKind.i64.wrap ((i : Int) + 1) = ((i + 1 : Nat) : Int) := by rw [Ab.wrap_i64 (by omega) (by omega)]; omega
      have e2 : cellsI .i64 40 (convI IntKind.i64.wrap (fun _ => prodX s i) (wd (cellsI .i64 16 r)) i 16 (wd (cellsI .i64 40 (convO IntKind.i64.wrap s r 16 i)))) = cellsI .i64 40 (convO IntKind.i64.wrap s r 16 (i + 1)) := cellsI_congr fun k hk => by
        have ex : prodX s i = s i := by
          unfold prodX
          rw [show 0 + (i : Int).toNat * 1 = i by omega]
          exact wd_cellsI (k := .i64) (x := s) (by omega)
        exact convI_congr (N := 40) (x := fun _ => prodX s i) (x' := s) ex (fun k hk => wd_cellsI hk) (fun k hk => wd_cellsI hk) (by omega) k hk
      have e3 : hp2 q r s (convI IntKind.i64.wrap (fun _ => prodX s i) (wd (cellsI .i64 16 r)) i 16 (wd (cellsI .i64 40 (convO IntKind.i64.wrap s r 16 i)))) = hp2 q r s (convO IntKind.i64.wrap s r 16 (i + 1)) := by
        unfold hp2
        rw [e2]
      rw [e1, e3] at h
      exact ⟨z', h⟩)
    (fun z => big_view (ovX_ok _ _) nilC mix (hookB2_ok M) (lastA2 M q r s _ v1 v2 v4 at0 19 z) (held_one (by decide))) z
  exact ⟨z', block_big hz⟩

def hookA2 (vs : List Value) (H : AHeap) : Option (AExit × List Value × AHeap × Pins) :=
  match vs, H with
  | [v1, v2, v4, .int .i64 at0, .slice (some ⟨3, 0, some 16⟩) 16 16, .slice (some ⟨22, 0, some 19⟩) 19 19, .slice (some ⟨24, 0, some 40⟩) 40 40, .slice (some ⟨22, 0, some 19⟩) 19 19, .int .i64 19, .int .i64 0],
    [some o0, some o1, some o2, some ⟨R, true, 1, true⟩, some o4, some o5, some o6, some o7, some o8, some o9, some o10, some o11, some o12, some o13, some o14, some o15, some o16, some o17, some o18, some o19, some o20, some o21, some ⟨S, true, 1, true⟩, some o23, some ⟨Z, true, 1, true⟩] =>
      some (.normal, vsA2 v1 v2 v4 at0 19, hp2 ⟨o0, o1, o2, o4, o5, o6, o7, o8, o9, o10, o11, o12, o13, o14, o15, o16, o17, o18, o19, o20, o21, o23⟩ (wd R) (wd S) (convO IntKind.i64.wrap (wd S) (wd R) 16 19),
        [(cellB 16 R && (cellB 19 S && zeroC 40 Z), true)])
  | _, _ => none

theorem hookA2_ok (M : Mem) (code : Code) (ho : occ 6 code = [.loop loopA]) : HooksOk Tryd.prog M [(6, mkHook Tryd.prog M 6 (.loop loopA) 154 liveA hookA2 liveA)] code := by
  refine hooks_one ho (mkHook_ok fun vs H0 e V H p z hf hp => ?_)
  unfold hookA2 at hf
  split at hf
  · rename_i v1 v2 v4 at0 o0 o1 o2 R o4 o5 o6 o7 o8 o9 o10 o11 o12 o13 o14 o15 o16 o17 o18 o19 o20 o21 S o23 Z
    cases hf
    have b := hp (_, true) (List.Mem.head _)
    simp only [Bool.and_eq_true] at b
    obtain ⟨b1, b2, b3⟩ := b
    have := outerA2 M ⟨o0, o1, o2, o4, o5, o6, o7, o8, o9, o10, o11, o12, o13, o14, o15, o16, o17, o18, o19, o20, o21, o23⟩ (wd R) (wd S) v1 v2 v4 at0 z
    have eH : hp2 ⟨o0, o1, o2, o4, o5, o6, o7, o8, o9, o10, o11, o12, o13, o14, o15, o16, o17, o18, o19, o20, o21, o23⟩ (wd R) (wd S) (fun _ => 0) = [some o0, some o1, some o2, some ⟨R, true, 1, true⟩, some o4, some o5, some o6, some o7, some o8, some o9, some o10, some o11, some o12, some o13, some o14, some o15, some o16, some o17, some o18, some o19, some o20, some o21, some ⟨S, true, 1, true⟩, some o23, some ⟨Z, true, 1, true⟩] := by
      unfold hp2
      rw [← cellB_eq b1, ← cellB_eq b2, ← zeroC_eq b3]
    rw [eH] at this
    exact this
  · cases hf

end Go.Proofs.YtgnbmjhljlbkhaaDoor
