/- (*l1Src).Bytes: so many drawn bytes.
   Conditions: none. -/
import Derived.Test.YtgnbmjhljlbkhaaDoorGA
import Derived.Test.YtgnbmjhljlbkhaaDoorDraw
open Go.Ab Go.Num
set_option linter.unusedVariables false
set_option linter.unusedSimpArgs false
namespace Go.Proofs.YtgnbmjhljlbkhaaDoor
/-! ### (*l1Src).Bytes -/
noncomputable def loopBy : Code := loopOf 0 (Tryd.f35.body.getD .skip)
set_option maxRecDepth 100000 in
theorem occBy : occ 0 (Tryd.f35.body.getD .skip) = [.loop loopBy] := by kernel_rfl
set_option maxRecDepth 100000 in
theorem stepBys (M : Mem) (b off n c j : Nat) (N k : Int) (g : Bool) (e : Nat) (x i : Int) (X : List Value) (z : Nat → Value) :
   viewK liveBy [] 2 0 (evU Tryd.prog M (ovX Tryd.prog M) [18] [] [nSumG M 39] [10] 300 loopBy ⟨mkT 20 liveBy (vsBy N j j k) z, hsBy (some (b, off)) n c g e (x, i) X⟩ [true])
   = some (.normal, vsBy N (j + 1) ((j + 1) * 1) (IntKind.i64.wrap (k + 1)), hsBy (some (b, off)) n c g e (nextC M (some ⟨b, off, none⟩) n (x, i)) (X.take (j * 1) ++ [.int .u8 (IntKind.u8.wrap (nK 256 (nextC M (some ⟨b, off, none⟩) n (x, i)).1))]), 20,
     (decide (k < N), true) :: (dPin M (some ⟨b, off, none⟩) n (x, i) 256 ++ [(apB X j, true)])) := by kernel_rfl
set_option maxRecDepth 100000 in
theorem stepByz (M : Mem) (n c j : Nat) (N k : Int) (g : Bool) (e : Nat) (x i : Int) (X : List Value) (z : Nat → Value) :
   viewK liveBy [] 2 0 (evU Tryd.prog M (ovX Tryd.prog M) [18] [] [nSumG M 39] [10] 300 loopBy ⟨mkT 20 liveBy (vsBy N j j k) z, hsBy none n c g e (x, i) X⟩ [true])
   = some (.normal, vsBy N (j + 1) ((j + 1) * 1) (IntKind.i64.wrap (k + 1)), hsBy none n c g e (nextC M none 0 (x, i)) (X.take (j * 1) ++ [.int .u8 (IntKind.u8.wrap (nK 256 (nextC M none 0 (x, i)).1))]), 20,
     (decide (k < N), true) :: (dPin M none 0 (x, i) 256 ++ [(apB X j, true)])) := by kernel_rfl
set_option maxRecDepth 100000 in
theorem lastBy (M : Mem) (j : Nat) (N k : Int) (H : AHeap) (z : Nat → Value) :
   viewU liveBy (evU Tryd.prog M (ovX Tryd.prog M) [18] [] [nSumG M 39] [10] 300 loopBy ⟨mkT 20 liveBy (vsBy N j j k) z, H⟩ [false])
   = some (.exit 0, vsBy N j j k, H, 20, [(decide (k < N), false)]) := by kernel_rfl

theorem stepBy (M : Mem) (u : Option (Nat × Nat)) (n c j : Nat) (N k : Int) (g : Bool) (e : Nat) (p : Int × Int) (X : List Value) (z : Nat → Value) :
   viewK liveBy [] 2 0 (evU Tryd.prog M (ovX Tryd.prog M) [18] [] [nSumG M 39] [10] 300 loopBy ⟨mkT 20 liveBy (vsBy N j j k) z, hsBy u n c g e p X⟩ [true])
   = some (.normal, vsBy N (j + 1) ((j + 1) * 1) (IntKind.i64.wrap (k + 1)), hsBy u n c g e (nextC M (srcA u) (lenS u n) p) (X.take (j * 1) ++ [.int .u8 (IntKind.u8.wrap (nK 256 (nextC M (srcA u) (lenS u n) p).1))]), 20,
     (decide (k < N), true) :: (dPin M (srcA u) (lenS u n) p 256 ++ [(apB X j, true)])) := by
  obtain ⟨x, i⟩ := p
  cases u with
  | some q => obtain ⟨b, off⟩ := q; exact stepBys M b off n c j N k g e x i X z
  | none => exact stepByz M n c j N k g e x i X z

theorem loopByB (M : Mem) {u : Option (Nat × Nat)} {n c : Nat} {g : Bool} {e : Nat} {p : Int × Int} {N : Nat} (h : srcOk M (srcA u) (lenS u n) p.2 = true) (hN : N ≤ 1048576) (z : Nat → Value) :
    ∃ z', Big Tryd.prog M (.block 0 (.loop loopBy)) ⟨mkT 20 liveBy (vsBy N 0 0 ((0 : Nat) : Int)) z, hsBy u n c g e p []⟩ .normal
      ⟨mkT 20 liveBy (vsBy N N N (N : Int)) z', hsBy u n c g e (drawC M (srcA u) (lenS u n) p N) (cellsI .u8 N (bytF M u n p))⟩ := by
  obtain ⟨h1, h2, h3⟩ := srcOk_iff.1 h
  have hD := drawC_ok (M := M) (u := srcA u) (n := lenS u n) h2 (p := p) h3
  obtain ⟨z', hz⟩ := loop_bigK (k := 2) (P := Tryd.prog) (M := M) (c := loopBy) (N := 20) (n := N) (live := liveBy) (live' := liveBy) (V := fun i => vsBy N i i (i : Int)) (H := fun i => hsBy u n c g e (drawC M (srcA u) (lenS u n) p i) (cellsI .u8 i (bytF M u n p))) (e := .exit 0)
    (V' := vsBy N N N (N : Int)) (H' := hsBy u n c g e (drawC M (srcA u) (lenS u n) p N) (cellsI .u8 N (bytF M u n p))) (by simp) (Nat.le_refl 2)
    (fun i hi z => by
      obtain ⟨z', hb⟩ := bigK_view (ovX_ok _ _) (consC (dN M) nilC) mix (hooksOk_nil _) (stepBy M u n c i N (i : Int) g e (drawC M (srcA u) (lenS u n) p i) (cellsI .u8 i (bytF M u n p)) z)
        (held_cons (by rw [decide_eq_true_eq]; omega) (held_two (dPin_held h1 (hD i) (by decide)) (held_one (apB_ok (by omega)))))
      rw [byt_snoc, Nat.mul_one, wrap_i64 (by omega) (by omega)] at hb
      exact ⟨z', hb⟩)
    (fun z => by
      obtain ⟨z', hb⟩ := big_view (ovX_ok _ _) (consC (dN M) nilC) mix (hooksOk_nil _) (lastBy M N N (N : Int) (hsBy u n c g e (drawC M (srcA u) (lenS u n) p N) (cellsI .u8 N (bytF M u n p))) z) (held_one (by rw [decide_eq_false_iff_not]; omega))
      exact ⟨z', Big.toK hb⟩) z
  exact ⟨z', block_big hz⟩

theorem hookByOk (M : Mem) : HooksOk Tryd.prog M [(0, mkHook Tryd.prog M 0 (.loop loopBy) 20 liveBy (hookBy M) liveBy)] (Tryd.f35.body.getD .skip) := by
  refine hooks_one occBy (mkHook_ok fun vs H0 e V H p z hf hp => ?_)
  unfold hookBy at hf
  split at hf
  · rename_i N b off n c i x g e
    cases hf
    have p1 : srcOk M (some ⟨b, off, none⟩) n i = true := hp (_, true) (List.Mem.head _)
    have p2 := of_decide_eq_true (hp (_, true) (List.Mem.tail _ (List.Mem.head _)))
    obtain ⟨k, rfl⟩ := Int.eq_ofNat_of_zero_le p2.1
    exact loopByB M (u := some (b, off)) (n := n) (c := c) (g := g) (e := e) (p := (x, i)) (N := k) p1 (by omega) z
  · rename_i N i x g e
    cases hf
    have p1 : srcOk M none 0 i = true := hp (_, true) (List.Mem.head _)
    have p2 := of_decide_eq_true (hp (_, true) (List.Mem.tail _ (List.Mem.head _)))
    obtain ⟨k, rfl⟩ := Int.eq_ofNat_of_zero_le p2.1
    exact loopByB M (u := none) (n := 0) (c := 0) (g := g) (e := e) (p := (x, i)) (N := k) p1 (by omega) z
  · cases hf

set_option maxRecDepth 100000 in
theorem rBys (M : Mem) (b off n c : Nat) (i x k : Int) (g : Bool) (e : Nat) : evFU Tryd.prog M (ovX Tryd.prog M) [] [(0, mkHook Tryd.prog M 0 (.loop loopBy) 20 liveBy (hookBy M) liveBy)] [nSumG M 39] [] 300 Tryd.f35 [.pointer (some ⟨0, 0, some 3⟩), .int .i64 k] [⟨[.slice (some ⟨b, off, none⟩) n c, .int .i64 i, .int .u64 x], g, e, false⟩] []
   = some ((.slice (some ⟨1, 0, some k.toNat⟩) k.toNat k.toNat, [⟨srcC (some (b, off)) n c (drawC M (some ⟨b, off, none⟩) n (x, i) k.toNat).2 (drawC M (some ⟨b, off, none⟩) n (x, i) k.toNat).1, g, e, false⟩], [⟨cellsI .u8 k.toNat (bytF M (some (b, off)) n (x, i)), true, 1, true⟩]),
      [(srcOk M (some ⟨b, off, none⟩) n i, true), (decide (0 ≤ k ∧ k ≤ 1048576), true)]) := by kernel_rfl
set_option maxRecDepth 100000 in
theorem rByz (M : Mem) (i x k : Int) (g : Bool) (e : Nat) : evFU Tryd.prog M (ovX Tryd.prog M) [] [(0, mkHook Tryd.prog M 0 (.loop loopBy) 20 liveBy (hookBy M) liveBy)] [nSumG M 39] [] 300 Tryd.f35 [.pointer (some ⟨0, 0, some 3⟩), .int .i64 k] [⟨[.slice none 0 0, .int .i64 i, .int .u64 x], g, e, false⟩] []
   = some ((.slice (some ⟨1, 0, some k.toNat⟩) k.toNat k.toNat, [⟨srcC none 0 0 (drawC M none 0 (x, i) k.toNat).2 (drawC M none 0 (x, i) k.toNat).1, g, e, false⟩], [⟨cellsI .u8 k.toNat (bytF M none 0 (x, i)), true, 1, true⟩]),
      [(srcOk M none 0 i, true), (decide (0 ≤ k ∧ k ≤ 1048576), true)]) := by kernel_rfl

theorem dB_x (M : Mem) : BytX Tryd.prog M 35 := fun u n c g e p k h hk => by
  obtain ⟨x, i⟩ := p
  obtain ⟨h1, h2, h3⟩ := srcOk_iff.1 h
  have q : decide (0 ≤ k ∧ k ≤ 1048576) = true := by rw [decide_eq_true_eq]; exact hk
  have hl : ∀ s ∈ [nSumG M 39], s.SoundC Tryd.prog M := consC (dN M) nilC
  cases u with
  | some a =>
    obtain ⟨b, off⟩ := a
    exact ⟨(_, (_, _)), fun j => u8_wrap _, drawC_ok (M := M) (u := some ⟨b, off, none⟩) (n := n) h2 (p := (x, i)) h3 k.toNat, acalls_of_evFU (ovX_ok _ _) hl mix Tryd.func35 (hookByOk M) (rBys M b off n c i x k g e) (held_cons h (held_one q))⟩
  | none =>
    exact ⟨(_, (_, _)), fun j => u8_wrap _, drawC_ok (M := M) (u := none) (n := 0) (by decide) (p := (x, i)) h3 k.toNat, acalls_of_evFU (ovX_ok _ _) hl mix Tryd.func35 (hookByOk M) (rByz M i x k g e) (held_cons h (held_one q))⟩
theorem dB (M : Mem) : (bytSumG Tryd.prog M 35).SoundC Tryd.prog M := bytSumG_sound Tryd.func35 (by kernel_rfl) (by kernel_rfl) (dB_x M)

end Go.Proofs.YtgnbmjhljlbkhaaDoor
