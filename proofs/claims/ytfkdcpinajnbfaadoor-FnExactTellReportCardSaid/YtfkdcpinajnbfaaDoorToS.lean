/- toByteS: a copy of a slice of bytes.
   Conditions: bytes in range. -/
import Derived.Test.YtfkdcpinajnbfaaDoorGA
import Derived.Test.YtfkdcpinajnbfaaDoorBase
open Go.Ab Go.Num
set_option linter.unusedVariables false
set_option linter.unusedSimpArgs false
namespace Go.Proofs.YtfkdcpinajnbfaaDoor

noncomputable def loopT : Code := loopOf 0 (Tryd.f31.body.getD .skip)
set_option maxRecDepth 100000 in
theorem occT : occ 0 (Tryd.f31.body.getD .skip) = [.loop loopT] := by kernel_rfl

def vsTr (b off n c : Nat) (k : Int) : List Value := [.slice (some ⟨b, off, none⟩) n c, .slice (some ⟨0, 0, some n⟩) n n, .int .i64 k]
def vsTo (f s n c : Nat) (k : Int) : List Value := [.slice (some ⟨0, f, some s⟩) n c, .slice (some ⟨1, 0, some n⟩) n n, .int .i64 k]

set_option maxRecDepth 100000 in
theorem stepTr (M : Mem) (b off n c : Nat) (k : Int) (x : List Value) (z : Nat → Value) :
   viewU liveT (evU Tryd.prog M (ovX Tryd.prog M) [18, 19, 20] [] [] [11] 200 loopT ⟨mkT 22 liveT (vsTr b off n c k) z, [some ⟨x, true, 1, true⟩]⟩ [true])
   = some (.normal, vsTr b off n c (IntKind.i64.wrap (k + 1)), [some ⟨wr x (0 + k.toNat * 1) [.int .u8 (vint ((M b (off + k.toNat * 1)).getD undef))], true, 1, true⟩], 22,
     [(decide (k < n), true), (inB k n, true), (roB .u8 M b (off + k.toNat * 1), true), (inB k n, true), (stB ⟨x, true, 1, true⟩ n (0 + k.toNat * 1) 1, true)]) := by kernel_rfl
set_option maxRecDepth 100000 in
theorem lastTr (M : Mem) (b off n c : Nat) (k : Int) (H : AHeap) (z : Nat → Value) :
   viewU liveT (evU Tryd.prog M (ovX Tryd.prog M) [18, 19, 20] [] [] [11] 200 loopT ⟨mkT 22 liveT (vsTr b off n c k) z, H⟩ [false])
   = some (.exit 0, vsTr b off n c k, H, 22, [(decide (k < n), false)]) := by kernel_rfl
set_option maxRecDepth 100000 in
theorem stepTo (M : Mem) (f s n c : Nat) (k : Int) (o : AObj) (x : List Value) (z : Nat → Value) :
   viewU liveT (evU Tryd.prog M (ovX Tryd.prog M) [18, 19, 20] [] [] [11] 200 loopT ⟨mkT 22 liveT (vsTo f s n c k) z, [some o, some ⟨x, true, 1, true⟩]⟩ [true])
   = some (.normal, vsTo f s n c (IntKind.i64.wrap (k + 1)), [some o, some ⟨wr x (0 + k.toNat * 1) [.int .u8 (vint (atC o.cells (f + k.toNat * 1)))], true, 1, true⟩], 22,
     [(decide (k < n), true), (inB k n, true), (ldB .u8 o s (f + k.toNat * 1), true), (inB k n, true), (stB ⟨x, true, 1, true⟩ n (0 + k.toNat * 1) 1, true)]) := by kernel_rfl
set_option maxRecDepth 100000 in
theorem lastTo (M : Mem) (f s n c : Nat) (k : Int) (H : AHeap) (z : Nat → Value) :
   viewU liveT (evU Tryd.prog M (ovX Tryd.prog M) [18, 19, 20] [] [] [11] 200 loopT ⟨mkT 22 liveT (vsTo f s n c k) z, H⟩ [false])
   = some (.exit 0, vsTo f s n c k, H, 22, [(decide (k < n), false)]) := by kernel_rfl

def hookTr (M : Mem) (vs : List Value) (H : AHeap) : Option (AExit × List Value × AHeap × Pins) :=
  match vs, H with
  | [.slice (some ⟨b, off, none⟩) n c, .slice (some ⟨0, 0, some n'⟩) n2 n3, .int .i64 0], [some ⟨x, true, 1, true⟩] =>
    some (.normal, vsTr b off n c n, [some ⟨cellsI .u8 n (roN M b off), true, 1, true⟩], [(decide (n' = n ∧ n2 = n ∧ n3 = n), true), (roAll M b off n, true), (isZ n x, true)])
  | _, _ => none
def hookTo (vs : List Value) (H : AHeap) : Option (AExit × List Value × AHeap × Pins) :=
  match vs, H with
  | [.slice (some ⟨0, f, some s⟩) n c, .slice (some ⟨1, 0, some n'⟩) n2 n3, .int .i64 0], [some ⟨cells, g, e, true⟩, some ⟨x, true, 1, true⟩] =>
    some (.normal, vsTo f s n c n, [some ⟨cells, g, e, true⟩, some ⟨cellsI .u8 n (fun i => wd cells (f + i)), true, 1, true⟩], [(decide (n' = n ∧ n2 = n ∧ n3 = n), true), (byAll cells s f n c, true), (isZ n x, true)])
  | _, _ => none

theorem wr0 {i : Nat} (h : i ≤ 281474976710656) : 0 + (ctr i).toNat * 1 = i ∧ ∀ f : Nat, f + (ctr i).toNat * 1 = f + i := by
  rw [ctr_eq (by omega)]
  exact ⟨by omega, fun f => by omega⟩
theorem st0 {n i : Nat} {x : Nat → Int} (h : i < n) : stB ⟨cellsI .u8 n x, true, 1, true⟩ n i 1 = true := by
  simp [stB, cellsI_length]
  omega

theorem hookTr_ok (M : Mem) : HooksOk Tryd.prog M [(0, mkHook Tryd.prog M 0 (.loop loopT) 22 liveT (hookTr M) liveT)] (Tryd.f31.body.getD .skip) := by
  refine hooks_one occT (mkHook_ok fun vs H0 e V H p z hf hp => ?_)
  unfold hookTr at hf
  split at hf
  · rename_i b off n c n' n2 n3 x
    cases hf
    have p1 := hp (_, true) (List.Mem.head _)
    have p2 := hp (_, true) (List.Mem.tail _ (List.Mem.head _))
    have p3 := hp (_, true) (List.Mem.tail _ (List.Mem.tail _ (List.Mem.head _)))
    simp only [decide_eq_true_eq] at p1
    obtain ⟨rfl, rfl, rfl⟩ := p1
    obtain ⟨hn, hro⟩ := roAll_iff.1 p2
    have ex := isZ_eq p3 (roN M b off)
    rw [ex]
    obtain ⟨z', hz⟩ := loop_big (P := Tryd.prog) (M := M) (c := loopT) (N := 22) (n := n3) (live := liveT) (live' := liveT) (V := fun i => vsTr b off n3 c (ctr i)) (H := fun i => [some ⟨cellsI .u8 n3 (cpF (roN M b off) i), true, 1, true⟩]) (e := .exit 0)
      (V' := vsTr b off n3 c n3) (H' := [some ⟨cellsI .u8 n3 (roN M b off), true, 1, true⟩]) (by simp)
      (fun i hi z => by
        obtain ⟨w1, w2⟩ := wr0 (i := i) (by omega)
        obtain ⟨z', h⟩ := big_view (ovX_ok _ _) nilC mix (hooksOk_nil _) (stepTr M b off n3 c (ctr i) (cellsI .u8 n3 (cpF (roN M b off) i)) z) (by
          rw [w1, w2]
          exact held_cons (by rw [decide_eq_true_eq]; exact ctr_lt hi (by omega)) (held_cons (inB_ctr hi (by omega)) (held_cons (hro i hi) (held_cons (inB_ctr hi (by omega)) (held_one (st0 hi))))))
        rw [w1, w2] at h
        have e : wr (cellsI .u8 n3 (cpF (roN M b off) i)) i [.int .u8 (vint ((M b (off + i)).getD undef))] = cellsI .u8 n3 (cpF (roN M b off) (i + 1)) := cpF_step hi
        rw [e] at h
        exact ⟨z', h⟩)
      (fun z => by
        have h := big_view (ovX_ok _ _) nilC mix (hooksOk_nil _) (lastTr M b off n3 c (ctr n3) [some ⟨cellsI .u8 n3 (cpF (roN M b off) n3), true, 1, true⟩] z) (held_one (by rw [decide_eq_false_iff_not, ctr_eq (by omega)]; omega))
        rw [cpF_all] at h ⊢
        have e : vsTr b off n3 c (ctr n3) = vsTr b off n3 c n3 := by rw [ctr_eq (by omega)]
        rw [e] at h ⊢
        exact h) z
    exact ⟨z', block_big hz⟩
  · cases hf

theorem hookTo_ok (M : Mem) : HooksOk Tryd.prog M [(0, mkHook Tryd.prog M 0 (.loop loopT) 22 liveT hookTo liveT)] (Tryd.f31.body.getD .skip) := by
  refine hooks_one occT (mkHook_ok fun vs H0 e V H p z hf hp => ?_)
  unfold hookTo at hf
  split at hf
  · rename_i f s n c n' n2 n3 cells g e x
    cases hf
    have p1 := hp (_, true) (List.Mem.head _)
    have p2 := hp (_, true) (List.Mem.tail _ (List.Mem.head _))
    have p3 := hp (_, true) (List.Mem.tail _ (List.Mem.tail _ (List.Mem.head _)))
    simp only [decide_eq_true_eq] at p1
    obtain ⟨rfl, rfl, rfl⟩ := p1
    simp only [byAll, Bool.and_eq_true, decide_eq_true_eq] at p2
    obtain ⟨hn, hd⟩ := p2
    obtain ⟨hlen, _, _, _, hB⟩ := dataB_iff.1 hd
    have ex := isZ_eq p3 (fun i => wd cells (f + i))
    rw [ex]
    obtain ⟨z', hz⟩ := loop_big (P := Tryd.prog) (M := M) (c := loopT) (N := 22) (n := n3) (live := liveT) (live' := liveT) (V := fun i => vsTo f s n3 c (ctr i)) (H := fun i => [some ⟨cells, g, e, true⟩, some ⟨cellsI .u8 n3 (cpF (fun i => wd cells (f + i)) i), true, 1, true⟩]) (e := .exit 0)
      (V' := vsTo f s n3 c n3) (H' := [some ⟨cells, g, e, true⟩, some ⟨cellsI .u8 n3 (fun i => wd cells (f + i)), true, 1, true⟩]) (by simp)
      (fun i hi z => by
        obtain ⟨w1, w2⟩ := wr0 (i := i) (by omega)
        obtain ⟨z', h⟩ := big_view (ovX_ok _ _) nilC mix (hooksOk_nil _) (stepTo M f s n3 c (ctr i) ⟨cells, g, e, true⟩ (cellsI .u8 n3 (cpF (fun i => wd cells (f + i)) i)) z) (by
          rw [w1, w2]
          exact held_cons (by rw [decide_eq_true_eq]; exact ctr_lt hi (by omega)) (held_cons (inB_ctr hi (by omega)) (held_cons (by simp only [ldB, hlen, (hB i hi).1, decide_true, Bool.and_self]) (held_cons (inB_ctr hi (by omega)) (held_one (st0 hi))))))
        rw [w1, w2] at h
        have e : wr (cellsI .u8 n3 (cpF (fun i => wd cells (f + i)) i)) i [.int .u8 (vint (atC cells (f + i)))] = cellsI .u8 n3 (cpF (fun i => wd cells (f + i)) (i + 1)) := cpF_step hi
        rw [e] at h
        exact ⟨z', h⟩)
      (fun z => by
        have h := big_view (ovX_ok _ _) nilC mix (hooksOk_nil _) (lastTo M f s n3 c (ctr n3) [some ⟨cells, g, e, true⟩, some ⟨cellsI .u8 n3 (cpF (fun i => wd cells (f + i)) n3), true, 1, true⟩] z) (held_one (by rw [decide_eq_false_iff_not, ctr_eq (by omega)]; omega))
        rw [cpF_all] at h ⊢
        have e : vsTo f s n3 c (ctr n3) = vsTo f s n3 c n3 := by rw [ctr_eq (by omega)]
        rw [e] at h ⊢
        exact h) z
    exact ⟨z', block_big hz⟩
  · cases hf

set_option maxRecDepth 100000 in
theorem rT0 (M : Mem) : evFU Tryd.prog M (ovX Tryd.prog M) [] [] [] [] 200 Tryd.f31 [.slice none 0 0] [] [] = some ((.slice (some ⟨0, 0, some 0⟩) 0 0, [], [⟨[], true, 1, true⟩]), []) := by kernel_rfl
set_option maxRecDepth 100000 in
theorem rTr (M : Mem) (b off n c : Nat) : evFU Tryd.prog M (ovX Tryd.prog M) [7] [(0, mkHook Tryd.prog M 0 (.loop loopT) 22 liveT (hookTr M) liveT)] [] [] 200 Tryd.f31 [.slice (some ⟨b, off, none⟩) n c] [] []
   = some ((.slice (some ⟨0, 0, some n⟩) n n, [], [⟨cellsI .u8 n (roN M b off), true, 1, true⟩]), [(mkB 1 n n, true), (decide (n * 1 = n ∧ n = n ∧ n = n), true), (roAll M b off n, true), (isZ n (zcells [.int .u8 0] n), true)]) := by kernel_rfl
set_option maxRecDepth 100000 in
theorem rTo (M : Mem) (f s n c e : Nat) (g : Bool) (cells : List Value) : evFU Tryd.prog M (ovX Tryd.prog M) [7] [(0, mkHook Tryd.prog M 0 (.loop loopT) 22 liveT hookTo liveT)] [] [] 200 Tryd.f31 [.slice (some ⟨0, f, some s⟩) n c] [⟨cells, g, e, true⟩] []
   = some ((.slice (some ⟨1, 0, some n⟩) n n, [⟨cells, g, e, true⟩], [⟨cellsI .u8 n (fun i => wd cells (f + i)), true, 1, true⟩]), [(mkB 1 n n, true), (decide (n * 1 = n ∧ n = n ∧ n = n), true), (byAll cells s f n c, true), (isZ n (zcells [.int .u8 0] n), true)]) := by kernel_rfl

theorem mk_ok {n : Nat} (h : n ≤ 281474976710656) : mkB 1 n n = true := by
  simp only [mkB, Bool.and_eq_true, decide_eq_true_eq]
  omega

theorem toS_S (M : Mem) : (toSum M 31).SoundC Tryd.prog M := toSum_sound Tryd.func31 (by kernel_rfl) (by kernel_rfl)
  (acalls_of_evFU (ovX_ok _ _) nilC mix Tryd.func31 (hooksOk_nil _) (rT0 M) held_nil)
  (fun b off n c h => acalls_of_evFU (ovX_ok _ _) nilC mix Tryd.func31 (hookTr_ok M) (rTr M b off n c) (held_cons (mk_ok (roAll_iff.1 h).1) (held_cons (by simp) (held_cons h (held_one (isZ_zero n))))))
  (fun f s n c cells g e h => by
    have hn : n ≤ 281474976710656 := by simp only [byAll, Bool.and_eq_true, decide_eq_true_eq] at h; exact h.1
    exact acalls_of_evFU (ovX_ok _ _) nilC mix Tryd.func31 (hookTo_ok M) (rTo M f s n c e g cells) (held_cons (mk_ok hn) (held_cons (by simp) (held_cons h (held_one (isZ_zero n))))))

end Go.Proofs.YtfkdcpinajnbfaaDoor
