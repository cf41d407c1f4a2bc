/- The program's Poly1305 gives the tag.
   Conditions: bytes in range. -/
import Derived.Test.YtgnbmjhljlbkhaaDoorGA
import Derived.Test.YtgnbmjhljlbkhaaDoorPSum
open Go.Ab Go.Num
set_option linter.unusedVariables false
set_option linter.unusedSimpArgs false
namespace Go.Proofs.YtgnbmjhljlbkhaaDoor

noncomputable def loopP : Code := loopOf 0 (Tryd.f65.body.getD .skip)
set_option maxRecDepth 100000 in
theorem occP : occ 0 (Tryd.f65.body.getD .skip) = [.loop loopP] := by kernel_rfl

def vsP (f s n c : Nat) : List Value := [.slice (some ⟨0, f, some s⟩) n c, .pointer (some ⟨1, 0, some 32⟩), .pointer (some ⟨2, 0, some 16⟩), .pointer (some ⟨3, 0, some 5⟩)]
def hsP (cells K : List Value) (o2 : AObj) (e1 : Nat) (g3 : Bool) (e3 : Nat) (st : List Value) : AHeap := [some ⟨cells, true, 1, true⟩, some ⟨K, false, e1, true⟩, some o2, some ⟨st, g3, e3, true⟩]

def nN (N b r0 r1 : Int) : Int := foldP ((num3 (N % 18446744073709551616) (N / 18446744073709551616 % 18446744073709551616) (N / 340282366920938463463374607431768211456) + b) * (r0 + 18446744073709551616 * r1))
def okB (r0 r1 N : Int) : Bool := polyOk r0 r1 (N % 18446744073709551616) (N / 18446744073709551616 % 18446744073709551616) (N / 340282366920938463463374607431768211456) && decide (N / 340282366920938463463374607431768211456 ≤ 5)

set_option maxRecDepth 100000 in
theorem stepP (M : Mem) (f s n c e1 e3 : Nat) (g3 : Bool) (cells K : List Value) (o2 : AObj) (r0 r1 N : Int) (z : Nat → Value) :
   viewU [1, 2, 4, 5] (evU Tryd.prog M (ovX Tryd.prog M) [17, 20] [] [pieceSumP 72] [15] 300 loopP ⟨mkT 28 [1, 2, 4, 5] (vsP f s n c) z, hsP cells K o2 e1 g3 e3 (polyC r0 r1 N)⟩ [true])
   = some (.normal, vsP (f + 16) s (n - 16) (c - 16), hsP cells K o2 e1 g3 e3 (polyC r0 r1 (nN N (blkN cells f 16) r0 r1)), 28,
      [(decide ((n : Int) ≥ 16), true), (decide (abounds n c none (some (.int .i64 16)) none = some (0, 16, c)), true), (Nat.blt 0 16 && Nat.ble 16 16, true), (okB r0 r1 N, true), (pieceB cells f s 16, true), (decide (abounds n c (some (.int .i64 16)) none none = some (16, n, c)), true)]) := by kernel_rfl
set_option maxRecDepth 100000 in
theorem lastP (M : Mem) (f s n c : Nat) (H : AHeap) (z : Nat → Value) :
   viewU [1, 2, 4, 5] (evU Tryd.prog M (ovX Tryd.prog M) [17, 20] [] [] [15] 300 loopP ⟨mkT 28 [1, 2, 4, 5] (vsP f s n c) z, H⟩ [false])
   = some (.exit 0, vsP f s n c, H, 28, [(decide ((n : Int) ≥ 16), false)]) := by kernel_rfl

theorem okB_ok {r0 r1 N : Int} (h : okN N) (h0 : 0 ≤ r0 ∧ r0 < 1152921504606846976) (h1 : 0 ≤ r1 ∧ r1 < 1152921504606846976) : okB r0 r1 N = true := by
  obtain ⟨a, b, c, d⟩ := okN_words h
  simp only [okB, Bool.and_eq_true, decide_eq_true_eq]
  exact ⟨polyOk_iff.2 ⟨h0, h1, a, b, c, by omega⟩, by omega⟩

theorem acc_ok {r0 r1 : Int} (h0 : 0 ≤ r0 ∧ r0 < 1152921504606846976) (h1 : 0 ≤ r1 ∧ r1 < 1152921504606846976) {cells : List Value} {s f n c : Nat} (hd : dataB cells s f n c = true) : ∀ {i : Nat}, 16 * i ≤ n → okN (accI (r0 + 18446744073709551616 * r1) cells f i) := by
  intro i
  induction i with
  | zero => intro _; exact ⟨Int.le_refl 0, by show (0 : Int) < _; decide⟩
  | succ i ih =>
    intro hi
    have hp := data_piece hd (g := f + 16 * i) (m := 16) (by omega) (by omega)
    exact okN_step (ih (by omega)) h0 h1 (blk_range hp (by omega))

theorem stepP' (M : Mem) {r0 r1 : Int} (h0 : 0 ≤ r0 ∧ r0 < 1152921504606846976) (h1 : 0 ≤ r1 ∧ r1 < 1152921504606846976) {cells : List Value} {s f n c : Nat} (hd : dataB cells s f n c = true) (e1 e3 : Nat) (g3 : Bool) (K : List Value) (o2 : AObj)
    {i : Nat} (hi : i < n / 16) (z : Nat → Value) :
    ∃ z', Big Tryd.prog M loopP ⟨mkT 28 [1, 2, 4, 5] (vsP (f + 16 * i) s (n - 16 * i) (c - 16 * i)) z, hsP cells K o2 e1 g3 e3 (polyC r0 r1 (accI (r0 + 18446744073709551616 * r1) cells f i))⟩ .normal
      ⟨mkT 28 [1, 2, 4, 5] (vsP (f + 16 * (i + 1)) s (n - 16 * (i + 1)) (c - 16 * (i + 1))) z', hsP cells K o2 e1 g3 e3 (polyC r0 r1 (accI (r0 + 18446744073709551616 * r1) cells f (i + 1)))⟩ := by
  obtain ⟨_, _, hc, hn, _⟩ := dataB_iff.1 hd
  have hok := acc_ok h0 h1 hd (i := i) (by omega)
  have hp := data_piece hd (g := f + 16 * i) (m := 16) (by omega) (by omega)
  obtain ⟨z', h⟩ := big_view (ovX_ok _ _) (consC (pieceSumP_sound (pieceS M)) nilC) mix (hooksOk_nil _) (stepP M (f + 16 * i) s (n - 16 * i) (c - 16 * i) e1 e3 g3 cells K o2 r0 r1 (accI (r0 + 18446744073709551616 * r1) cells f i) z) (by
    refine held_cons (by rw [decide_eq_true_eq]; omega) (held_cons ?_ (held_cons rfl (held_cons (okB_ok hok h0 h1) (held_cons hp (held_one ?_)))))
    · rw [decide_eq_true_eq]; delta abounds; simp only [bnd]; rw [if_pos (by omega)]; rfl
    · rw [decide_eq_true_eq]; delta abounds; simp only [bnd]; rw [if_pos (by omega)]; simp only; rw [if_pos (by omega)]; rfl)
  have e : nN (accI (r0 + 18446744073709551616 * r1) cells f i) (blkN cells (f + 16 * i) 16) r0 r1 = accI (r0 + 18446744073709551616 * r1) cells f (i + 1) := by
    unfold nN
    rw [num3_split]
    rfl
  rw [e, show f + 16 * i + 16 = f + 16 * (i + 1) by omega, show n - 16 * i - 16 = n - 16 * (i + 1) by omega, show c - 16 * i - 16 = c - 16 * (i + 1) by omega] at h
  exact ⟨z', h⟩

def hookP (vs : List Value) (H : AHeap) : Option (AExit × List Value × AHeap × Pins) :=
  match vs, H with
  | [.slice (some ⟨0, f, some s⟩) n c, .pointer (some ⟨1, 0, some 32⟩), .pointer (some ⟨2, 0, some 16⟩), .pointer (some ⟨3, 0, some 5⟩)], [some ⟨cells, true, 1, true⟩, some ⟨K, false, e1, true⟩, some o2, some ⟨[.int .u64 r0, .int .u64 r1, .int .u64 h0, .int .u64 h1, .int .u64 h2], g3, e3, true⟩] =>
    some (.normal, vsP (f + 16 * (n / 16)) s (n - 16 * (n / 16)) (c - 16 * (n / 16)), hsP cells K o2 e1 g3 e3 (polyC r0 r1 (accI (r0 + 18446744073709551616 * r1) cells f (n / 16))),
      [(decide (h0 = 0) && (decide (h1 = 0) && decide (h2 = 0)), true), (decide (0 ≤ r0 ∧ r0 < 1152921504606846976) && decide (0 ≤ r1 ∧ r1 < 1152921504606846976), true), (dataB cells s f n c, true)])
  | _, _ => none

theorem hookP_ok (M : Mem) : HooksOk Tryd.prog M [(0, mkHook Tryd.prog M 0 (.loop loopP) 28 [1, 2, 4, 5] hookP [1, 2, 4, 5])] (Tryd.f65.body.getD .skip) := by
  refine hooks_one occP (mkHook_ok fun vs H0 e V H p z hf hp => ?_)
  unfold hookP at hf
  split at hf
  · rename_i f s n c cells K e1 o2 r0 r1 h0 h1 h2 g3 e3
    cases hf
    have a := hp (_, true) (List.Mem.head _)
    have b := hp (_, true) (List.Mem.tail _ (List.Mem.head _))
    have hd : dataB cells s f n c = true := hp (dataB cells s f n c, true) (List.Mem.tail _ (List.Mem.tail _ (List.Mem.head _)))
    simp only [Bool.and_eq_true, decide_eq_true_eq] at a b
    obtain ⟨rfl, rfl, rfl⟩ := a
    obtain ⟨_, _, hc, hn, _⟩ := dataB_iff.1 hd
    obtain ⟨z', hz⟩ := loop_big (n := n / 16) (live := [1, 2, 4, 5]) (live' := [1, 2, 4, 5]) (V := fun i => vsP (f + 16 * i) s (n - 16 * i) (c - 16 * i))
      (H := fun i => hsP cells K o2 e1 g3 e3 (polyC r0 r1 (accI (r0 + 18446744073709551616 * r1) cells f i))) (e := .exit 0) (by simp)
      (fun i hi z => stepP' M b.1 b.2 hd e1 e3 g3 K o2 hi z)
      (fun z => big_view (ovX_ok _ _) nilC mix (hooksOk_nil _) (lastP M (f + 16 * (n / 16)) s (n - 16 * (n / 16)) (c - 16 * (n / 16)) _ z) (held_one (by rw [decide_eq_false_iff_not]; omega))) z
    exact ⟨z', block_big hz⟩
  · cases hf

noncomputable def L65 : List Sum := [word8Sum 71, pieceSumP 72, psumSum 73]
theorem L65_sound (M : Mem) : ∀ s ∈ L65, s.SoundC Tryd.prog M := consC (wordS8 M) (consC (pieceSumP_sound (pieceS M)) (consC (psumS M) nilC))

def kw (k : Nat → Int) : Nat → Int := wd (cellsI .u8 32 k)
def AA (k : Nat → Int) (cells : List Value) (f n : Nat) : Int := accI (rK0 (kw k) + 18446744073709551616 * rK1 (kw k)) cells f (n / 16)
def BB (k : Nat → Int) (cells : List Value) (f n : Nat) : Int := nN (AA k cells f n) (blkN cells (f + 16 * (n / 16)) (n - 16 * (n / 16))) (rK0 (kw k)) (rK1 (kw k))
def tagL (k : Nat → Int) (A : Int) : List Value := cellsI .u8 16 fun i => (num3 (A % 18446744073709551616) (A / 18446744073709551616 % 18446744073709551616) (A / 340282366920938463463374607431768211456) % P130 + (W8 (kw k) 16 + 18446744073709551616 * W8 (kw k) 24)) / 256 ^ i % 256
def sOk (A : Int) : Bool := hasB .u64 (A % 18446744073709551616) && (hasB .u64 (A / 18446744073709551616 % 18446744073709551616) && (decide (0 ≤ A / 340282366920938463463374607431768211456) && (decide (A / 340282366920938463463374607431768211456 ≤ 7) &&
  decide (num3 (A % 18446744073709551616) (A / 18446744073709551616 % 18446744073709551616) (A / 340282366920938463463374607431768211456) < 2 * P130))))
def pins65 (k : Nat → Int) (cells : List Value) (f s n c : Nat) : Pins :=
  [(eightR (cellsI .u8 32 k) 0 32, true), (Nat.ble 8 32, true), (eightR (cellsI .u8 32 k) 8 32, true), (Nat.ble 8 24, true),
   (decide ((0 : Int) = 0) && (decide ((0 : Int) = 0) && decide ((0 : Int) = 0)), true), (decide (0 ≤ rK0 (kw k) ∧ rK0 (kw k) < 1152921504606846976) && decide (0 ≤ rK1 (kw k) ∧ rK1 (kw k) < 1152921504606846976), true), (dataB cells s f n c, true)]

set_option maxRecDepth 100000 in
theorem rPolyF (M : Mem) (k : Nat → Int) (f s n c : Nat) (cells : List Value) : evFU Tryd.prog M (ovX Tryd.prog M) [] [(0, mkHook Tryd.prog M 0 (.loop loopP) 28 [1, 2, 4, 5] hookP [1, 2, 4, 5])] L65 [23] 500 Tryd.f65 [.agg ⟨cellsI .u8 32 k⟩, .slice (some ⟨0, f, some s⟩) n c] [⟨cells, true, 1, true⟩] [false]
   = some ((.agg ⟨tagL k (AA k cells f n)⟩, [⟨cells, true, 1, true⟩], []), pins65 k cells f s n c ++ [(decide (((n - 16 * (n / 16) : Nat) : Int) > 0), false), (sOk (AA k cells f n), true), (keyB (cellsI .u8 32 k) 16 32 && Nat.ble 16 16, true)]) := by kernel_rfl
set_option maxRecDepth 100000 in
theorem rPolyT (M : Mem) (k : Nat → Int) (f s n c : Nat) (cells : List Value) : evFU Tryd.prog M (ovX Tryd.prog M) [] [(0, mkHook Tryd.prog M 0 (.loop loopP) 28 [1, 2, 4, 5] hookP [1, 2, 4, 5])] L65 [23] 500 Tryd.f65 [.agg ⟨cellsI .u8 32 k⟩, .slice (some ⟨0, f, some s⟩) n c] [⟨cells, true, 1, true⟩] [true]
   = some ((.agg ⟨tagL k (BB k cells f n)⟩, [⟨cells, true, 1, true⟩], []), pins65 k cells f s n c ++ [(decide (((n - 16 * (n / 16) : Nat) : Int) > 0), true), (Nat.blt 0 (n - 16 * (n / 16)) && Nat.ble (n - 16 * (n / 16)) 16, true), (okB (rK0 (kw k)) (rK1 (kw k)) (AA k cells f n), true), (pieceB cells (f + 16 * (n / 16)) s (n - 16 * (n / 16)), true),
      (sOk (BB k cells f n), true), (keyB (cellsI .u8 32 k) 16 32 && Nat.ble 16 16, true)]) := by kernel_rfl

theorem kw_range {k : Nat → Int} (hk : ∀ i, IntKind.u8.has (k i)) : ∀ i, IntKind.u8.has (kw k i) := rngB_wd (rngB_cellsI hk)
theorem W8_kw {k : Nat → Int} {f : Nat} (hf : f + 8 ≤ 32) : W8 (kw k) f = W8 k f := val_congr fun i hi => by unfold kw; rw [wd_cellsI (by omega)]

theorem sOk_ok {A : Int} (h : okN A) : sOk A = true := by
  obtain ⟨a, b, c, d⟩ := okN_words h
  simp only [sOk, Bool.and_eq_true, hasB_iff, decide_eq_true_eq]
  rw [num3_split]
  refine ⟨a, b, c, by omega, ?_⟩
  have := h.2
  show A < 2 * 1361129467683753853853498429727072845819
  omega

theorem tag_eq {k : Nat → Int} {A B : Int} (h : A % P130 = B) : tagL k A = cellsI .u8 16 fun i => (B + (W8 k 16 + 18446744073709551616 * W8 k 24)) / 256 ^ i % 256 := by
  unfold tagL
  rw [num3_split, h, W8_kw (by omega), W8_kw (by omega)]

theorem polyS (M : Mem) : (polySum 65).SoundC Tryd.prog M := polySum_sound Tryd.func65 (by kernel_rfl) (by kernel_rfl) fun k f s n c cells hk hd => by
  obtain ⟨r0, r1⟩ := rK_range (kw_range hk)
  have er : rK0 (kw k) + 18446744073709551616 * rK1 (kw k) = rK k := by unfold rK rK0 rK1; rw [W8_kw (by omega), W8_kw (by omega)]
  have hA : okN (AA k cells f n) := acc_ok r0 r1 hd (by omega)
  have hk8 : ∀ g, g + 8 ≤ 32 → eightR (cellsI .u8 32 k) g 32 = true := fun g hg => eight_c hg hk
  have hkey : (keyB (cellsI .u8 32 k) 16 32 && Nat.ble 16 16) = true := by unfold keyB; rw [hk8 16 (by omega), hk8 24 (by omega)]; rfl
  have hp : Held (pins65 k cells f s n c) := by
    refine held_cons (hk8 0 (by omega)) (held_cons rfl (held_cons (hk8 8 (by omega)) (held_cons rfl (held_cons rfl (held_cons ?_ (held_one hd))))))
    simp only [Bool.and_eq_true, decide_eq_true_eq]
    exact ⟨r0, r1⟩
  have eA : AA k cells f n % P130 = accM (rK k) cells f (n / 16) := by unfold AA; rw [er, acc_mod]
  by_cases h0 : n % 16 = 0
  · have := acalls_of_evFU (ovX_ok _ _) (L65_sound M) mix Tryd.func65 (hookP_ok M) (rPolyF M k f s n c cells) (app_held hp (held_cons (by rw [decide_eq_false_iff_not]; omega) (held_cons (sOk_ok hA) (held_one hkey))))
    rw [tag_eq eA] at this
    unfold tagF accA
    rw [if_pos h0]
    exact this
  · have hpc := data_piece hd (g := f + 16 * (n / 16)) (m := n - 16 * (n / 16)) (by omega) (by omega)
    have eB : BB k cells f n = foldP ((accI (rK k) cells f (n / 16) + blkN cells (f + 16 * (n / 16)) (n % 16)) * rK k) := by
      unfold BB nN AA
      rw [num3_split, er, show n - 16 * (n / 16) = n % 16 by omega]
    have hB : okN (BB k cells f n) := by
      unfold BB nN
      rw [num3_split]
      exact okN_step hA r0 r1 (blk_range hpc (by omega))
    have hbB : BB k cells f n % P130 = (accM (rK k) cells f (n / 16) + blkN cells (f + 16 * (n / 16)) (n % 16)) * rK k % P130 := by rw [eB, fold_acc]
    have := acalls_of_evFU (ovX_ok _ _) (L65_sound M) mix Tryd.func65 (hookP_ok M) (rPolyT M k f s n c cells) (app_held hp (held_cons (by rw [decide_eq_true_eq]; omega)
      (held_cons (by rw [Bool.and_eq_true]; exact ⟨Nat.blt_eq.mpr (by omega), Nat.ble_eq_true_of_le (by omega)⟩) (held_cons (okB_ok hA r0 r1) (held_cons hpc (held_cons (sOk_ok hB) (held_one hkey)))))))
    rw [tag_eq hbB] at this
    unfold tagF accA
    rw [if_neg h0]
    exact this

end Go.Proofs.YtgnbmjhljlbkhaaDoor
