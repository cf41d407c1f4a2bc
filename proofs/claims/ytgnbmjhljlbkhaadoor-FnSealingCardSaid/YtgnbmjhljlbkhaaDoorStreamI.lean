/- The program's stream.
   Conditions: bytes in range. -/
import Derived.Test.YtgnbmjhljlbkhaaDoorStreamS
open Go.Ab Go.Num
set_option linter.unusedVariables false
set_option linter.unusedSimpArgs false
namespace Go.Proofs.YtgnbmjhljlbkhaaDoor

noncomputable def loopJ : Code := loopOf 2 (Tryd.f51.body.getD .skip)
noncomputable def loopQ : Code := loopOf 0 (Tryd.f51.body.getD .skip)
set_option maxRecDepth 100000 in
theorem occQ : occ 0 (Tryd.f51.body.getD .skip) = [.loop loopQ] := by kernel_rfl
set_option maxRecDepth 100000 in
theorem occJ : occ 2 loopQ = [.loop loopJ] := by kernel_rfl

def vsJ (f s n c e : Nat) (at0 j : Int) : List Value := [.slice (some ⟨0, f, some s⟩) n c, .pointer (some ⟨1, 0, some 32⟩), .pointer (some ⟨2, 0, some 12⟩), .slice (some ⟨3, 0, some (n + e)⟩) n (n + e), .int .i64 at0, .pointer (some ⟨4, 0, some 64⟩), .int .i64 j]

set_option maxRecDepth 100000 in
theorem stepJ (M : Mem) (f s n c e : Nat) (at0 j : Int) (cells X B : List Value) (k : Nat → Int) (g1 : Bool) (e1 : Nat) (o2 : AObj) (gb : Bool) (eb : Nat) (z : Nat → Value) :
   viewK liveI [] 5 1 (evU Tryd.prog M (ovX Tryd.prog M) [47, 48, 52, 53, 55] [] [] [34, 39] 300 loopJ ⟨mkT 57 liveI (vsJ f s n c e at0 j) z, hsI cells X B k g1 e1 o2 gb eb⟩ [true, true])
   = some (.normal, vsJ f s n c e at0 (IntKind.i64.wrap (j + 1)), hsI cells (wr X (0 + j.toNat * 1) [.int .u8 (xorJ cells f B at0 j)]) B k g1 e1 o2 gb eb, 57, ijPins cells X B f s n (n + e) at0 j gb eb) := by kernel_rfl
set_option maxRecDepth 100000 in
theorem lastJ (M : Mem) (f s n c e : Nat) (at0 j : Int) (H : AHeap) (z : Nat → Value) :
   viewU liveI (evU Tryd.prog M (ovX Tryd.prog M) [47, 48, 52, 53, 55] [] [] [34, 39] 300 loopJ ⟨mkT 57 liveI (vsJ f s n c e at0 j) z, H⟩ [false])
   = some (.exit 2, vsJ f s n c e at0 j, H, 57, [(decide (j < n), false)]) := by kernel_rfl
set_option maxRecDepth 100000 in
theorem fullJ (M : Mem) (f s n c e : Nat) (at0 j : Int) (H : AHeap) (z : Nat → Value) :
   viewU liveI (evU Tryd.prog M (ovX Tryd.prog M) [47, 48, 52, 53, 55] [] [] [34, 39] 300 loopJ ⟨mkT 57 liveI (vsJ f s n c e at0 j) z, H⟩ [true, false])
   = some (.exit 2, vsJ f s n c e at0 j, H, 57, [(decide (j < n), true), (decide (j < IntKind.i64.wrap (at0 + 64)), false)]) := by kernel_rfl

theorem innerJ (M : Mem) {f s n c a e : Nat} {cells B : List Value} (hd : dataB cells s f n c = true) (hB : blkB B = true) (hn : n ≤ 1048576) (ha : a ≤ n) (F : Nat → Int) (hF : ∀ j, j < 64 → F (a + j) = bits .xor .u8 (wd cells (f + (a + j))) (wd B j))
    (k : Nat → Int) (g1 : Bool) (e1 : Nat) (o2 : AObj) (gb : Bool) (eb : Nat) (z : Nat → Value) :
    ∃ z', Big Tryd.prog M (.block 2 (.loop loopJ)) ⟨mkT 57 liveI (vsJ f s n c e a a) z, hsI cells (cellsI .u8 (n + e) (ext F a)) B k g1 e1 o2 gb eb⟩ .normal
      ⟨mkT 57 liveI (vsJ f s n c e a (a + jS n a : Nat)) z', hsI cells (cellsI .u8 (n + e) (ext F (a + jS n a))) B k g1 e1 o2 gb eb⟩ := by
  obtain ⟨hj1, hj2⟩ := jS_le n a
  obtain ⟨z', hz⟩ := loop_bigK (k := 5) (P := Tryd.prog) (M := M) (c := loopJ) (N := 57) (n := jS n a) (live := liveI) (live' := liveI) (V := fun j => vsJ f s n c e a (a + j : Nat)) (H := fun j => hsI cells (cellsI .u8 (n + e) (ext F (a + j))) B k g1 e1 o2 gb eb) (e := .exit 2)
    (V' := vsJ f s n c e a (a + jS n a : Nat)) (H' := hsI cells (cellsI .u8 (n + e) (ext F (a + jS n a))) B k g1 e1 o2 gb eb) (by simp) (Nat.le_refl 5)
    (fun j hj z => by
      obtain ⟨z', h⟩ := bigK_view (ovX_ok _ _) nilC mix (hooksOk_nil _) (stepJ M f s n c e a (a + j : Nat) cells (cellsI .u8 (n + e) (ext F (a + j))) B k g1 e1 o2 gb eb z) (ijPins_held hd hB (by omega) (by omega))
      have e1' : IntKind.i64.wrap (((a + j : Nat) : Int) + 1) = ((a + (j + 1) : Nat) : Int) := by rw [Ab.wrap_i64 (by omega) (by omega)]; omega
      rw [e1', xorJ_eq (by omega), ← hF j (by omega), show 0 + ((a + j : Nat) : Int).toNat * 1 = a + j by omega, ext_step (by omega)] at h
      exact ⟨z', h⟩)
    (fun z => by
      by_cases hl : a + jS n a = n
      · obtain ⟨z', h⟩ := big_view (ovX_ok _ _) nilC mix (hooksOk_nil _) (lastJ M f s n c e a (a + jS n a : Nat) (hsI cells (cellsI .u8 (n + e) (ext F (a + jS n a))) B k g1 e1 o2 gb eb) z) (held_one (by rw [decide_eq_false_iff_not]; omega))
        exact ⟨z', Big.toK h⟩
      · obtain ⟨z', h⟩ := big_view (ovX_ok _ _) nilC mix (hooksOk_nil _) (fullJ M f s n c e a (a + jS n a : Nat) (hsI cells (cellsI .u8 (n + e) (ext F (a + jS n a))) B k g1 e1 o2 gb eb) z) (held_cons (by rw [decide_eq_true_eq]; omega) (held_one (by
          have : jS n a = 64 := by unfold jS at *; omega
          rw [decide_eq_false_iff_not, Ab.wrap_i64 (by omega) (by omega)]
          omega)))
        exact ⟨z', Big.toK h⟩) z
  exact ⟨z', block_big hz⟩

def hookJ (vs : List Value) (H : AHeap) : Option (AExit × List Value × AHeap × Pins) :=
  match vs, H with
  | [.slice (some ⟨0, f, some s⟩) n c, .pointer (some ⟨1, 0, some 32⟩), .pointer (some ⟨2, 0, some 12⟩), .slice (some ⟨3, 0, some sp⟩) n' cc, .int .i64 at0, .pointer (some ⟨4, 0, some 64⟩), .int .i64 j0], [some ⟨cells, true, 1, true⟩, some ⟨K, g1, e1, true⟩, some ⟨N, g2, e2, true⟩, some ⟨X, true, 1, true⟩, some ⟨B, gb, eb, true⟩] =>
    some (.normal, vsJ f s n c (sp - n) at0 (at0.toNat + jS n at0.toNat : Nat), hsI cells (cellsI .u8 (n + (sp - n)) (ext (xF cells f B at0.toNat X) (at0.toNat + jS n at0.toNat))) B (wd K) g1 e1 ⟨N, g2, e2, true⟩ gb eb,
      [(dataB cells s f n c, true), (blkB B, true), (decide (n' = n ∧ cc = sp ∧ n ≤ sp ∧ j0 = at0 ∧ 0 ≤ at0 ∧ at0 ≤ (n : Int) ∧ n ≤ 1048576), true), (isB sp X && tailZ X at0.toNat sp, true), (isB 32 K, true)])
  | _, _ => none

theorem hookJ_ok (M : Mem) : HooksOk Tryd.prog M [(2, mkHook Tryd.prog M 2 (.loop loopJ) 57 liveI hookJ liveI)] loopQ := by
  refine hooks_one occJ (mkHook_ok fun vs H0 e V H p z hf hp => ?_)
  unfold hookJ at hf
  split at hf
  · rename_i f s n c sp n' cc at0 j0 cells K g1 e1 N g2 e2 X B gb eb
    cases hf
    have p1 := hp (_, true) (List.Mem.head _)
    have p2 := hp (_, true) (List.Mem.tail _ (List.Mem.head _))
    have p3 := hp (_, true) (List.Mem.tail _ (List.Mem.tail _ (List.Mem.head _)))
    have p4 := hp (_, true) (List.Mem.tail _ (List.Mem.tail _ (List.Mem.tail _ (List.Mem.head _))))
    have p5 := hp (_, true) (List.Mem.tail _ (List.Mem.tail _ (List.Mem.tail _ (List.Mem.tail _ (List.Mem.head _)))))
    simp only [decide_eq_true_eq] at p3
    simp only [Bool.and_eq_true] at p4
    obtain ⟨rfl, rfl, hsp, rfl, h0, ha, hn⟩ := p3
    obtain ⟨a, rfl⟩ := Int.eq_ofNat_of_zero_le h0
    obtain ⟨e, rfl⟩ : ∃ e, cc = n' + e := ⟨cc - n', by omega⟩
    have ea : ((a : Int)).toNat = a := by omega
    rw [ea] at p4 ⊢
    have ee : n' + e - n' = e := by omega
    rw [ee]
    have := innerJ M (a := a) (e := e) p1 p2 hn (by omega) (xF cells f B a X) (fun j hj => by
      have hb : Nat.blt (a + j) a = false := by rw [Bool.eq_false_iff]; exact fun e => by have := Nat.blt_eq.mp e; omega
      unfold xF
      rw [hb, show a + j - a = j by omega]
      rfl) (wd K) g1 e1 ⟨N, g2, e2, true⟩ gb eb z
    have eX : cellsI .u8 (n' + e) (ext (xF cells f B a X) a) = X := by
      have e1 := isB_eq p4.1
      have : cellsI .u8 (n' + e) (ext (xF cells f B a X) a) = cellsI .u8 (n' + e) (wd X) := cellsI_congr fun i hi => by
        unfold ext xF
        cases hb : Nat.blt i a with
        | true => rfl
        | false => exact (tailZ_at p4.2 (by have : ¬ i < a := fun h => by rw [Nat.blt_eq.mpr h] at hb; cases hb
                                            omega) hi).symm
      rw [this, ← e1]
    have eH : hsI cells (cellsI .u8 (n' + e) (ext (xF cells f B a X) a)) B (wd K) g1 e1 ⟨N, g2, e2, true⟩ gb eb = [some ⟨cells, true, 1, true⟩, some ⟨K, g1, e1, true⟩, some ⟨N, g2, e2, true⟩, some ⟨X, true, 1, true⟩, some ⟨B, gb, eb, true⟩] := by
      unfold hsI
      rw [eX, ← isB_eq p5]
      rfl
    rw [eH] at this
    exact this
  · cases hf

def vsQ (f s n c e : Nat) (at0 : Int) : List Value := [.slice (some ⟨0, f, some s⟩) n c, .pointer (some ⟨1, 0, some 32⟩), .pointer (some ⟨2, 0, some 12⟩), .slice (some ⟨3, 0, some (n + e)⟩) n (n + e), .int .i64 at0]
def blkQ (k nn : Nat → Int) (at0 : Int) : List Value := blockF (wd (cellsI .u8 32 k)) (ctrI at0) (wd (cellsI .u8 12 nn))
def vsQ' (f s n c e : Nat) (at0 : Int) : List Value := [.slice (some ⟨0, f, some s⟩) n c, .pointer (some ⟨1, 0, some 32⟩), .pointer (some ⟨2, 0, some 12⟩), .slice (some ⟨3, 0, some (n + (n + e - n))⟩) n (n + (n + e - n)), .int .i64 at0]

set_option maxRecDepth 100000 in
theorem stepQ (M : Mem) (f s n c e a : Nat) (cells X : List Value) (k nn : Nat → Int) (g1 g2 : Bool) (e1 e2 : Nat) (z : Nat → Value) :
   viewK liveO [] 4 1 (evU Tryd.prog M (ovX Tryd.prog M) [] [(2, mkHook Tryd.prog M 2 (.loop loopJ) 57 liveI hookJ liveI)] [chaSum 13] [20] 300 loopQ ⟨mkT 57 liveO (vsQ f s n c e (a : Int)) z, hsO cells X k nn g1 g2 e1 e2⟩ [true])
   = some (.normal, vsQ' f s n c e (IntKind.i64.wrap ((a : Int) + 64)), hsO cells (cellsI .u8 (n + (n + e - n)) (ext (xF cells f (blkQ k nn (a : Int)) a X) (a + jS n a))) k nn g1 g2 e1 e2, 57,
     [(decide ((a : Int) < n), true), (rngB (cellsI .u8 32 k), true), (rngB (cellsI .u8 12 nn), true), (dataB cells s f n c, true), (blkB (blkQ k nn (a : Int)), true), (decide (n = n ∧ n + e = n + e ∧ n ≤ n + e ∧ (a : Int) = (a : Int) ∧ 0 ≤ (a : Int) ∧ (a : Int) ≤ (n : Int) ∧ n ≤ 1048576), true), (isB (n + e) X && tailZ X a (n + e), true), (isB 32 (cellsI .u8 32 k), true)]) := by kernel_rfl

set_option maxRecDepth 100000 in
theorem lastQ (M : Mem) (f s n c e : Nat) (at0 : Int) (H : AHeap) (z : Nat → Value) :
   viewU liveO (evU Tryd.prog M (ovX Tryd.prog M) [] [] [] [20] 300 loopQ ⟨mkT 57 liveO (vsQ f s n c e at0) z, H⟩ [false])
   = some (.exit 0, vsQ f s n c e at0, H, 57, [(decide (at0 < n), false)]) := by kernel_rfl

theorem outerQ (W : World) {f s n c e : Nat} {cells : List Value} (hd : dataB cells s f n c = true) (hn : n ≤ 1048576) {k nn : Nat → Int} (hk : rngB (cellsI .u8 32 k) = true) (hnn : rngB (cellsI .u8 12 nn) = true) (g1 g2 : Bool) (e1 e2 : Nat) (z : Nat → Value) :
    ∃ z', Big Tryd.prog (memL tblCha W) (.block 0 (.loop loopQ)) ⟨mkT 57 liveO (vsQ f s n c e 0) z, hsO cells (cellsI .u8 (n + e) (ext (strF (cellsI .u8 32 k) (cellsI .u8 12 nn) cells f) 0)) k nn g1 g2 e1 e2⟩ .normal
      ⟨mkT 57 liveO (vsQ f s n c e ((64 * ((n + 63) / 64) : Nat) : Int)) z', hsO cells (cellsI .u8 (n + e) (ext (strF (cellsI .u8 32 k) (cellsI .u8 12 nn) cells f) n)) k nn g1 g2 e1 e2⟩ := by
  obtain ⟨z', hz⟩ := loop_bigK (k := 4) (P := Tryd.prog) (M := memL tblCha W) (c := loopQ) (N := 57) (n := (n + 63) / 64) (live := liveO) (live' := liveO) (V := fun i => vsQ f s n c e ((64 * i : Nat) : Int))
    (H := fun i => hsO cells (cellsI .u8 (n + e) (ext (strF (cellsI .u8 32 k) (cellsI .u8 12 nn) cells f) (mO n i))) k nn g1 g2 e1 e2) (e := .exit 0)
    (V' := vsQ f s n c e ((64 * ((n + 63) / 64) : Nat) : Int)) (H' := hsO cells (cellsI .u8 (n + e) (ext (strF (cellsI .u8 32 k) (cellsI .u8 12 nn) cells f) n)) k nn g1 g2 e1 e2) (by simp) (Nat.le_refl 4)
    (fun i hi z => by
      obtain ⟨m1, m2⟩ := mO_step (n := n) (i := i) (by omega)
      have ec := (ctrS_eq (i := i) (by omega)).2
      obtain ⟨z', h⟩ := bigK_view (ovX_ok _ _) (consC (cha13 W) nilC) mix (hookJ_ok _) (stepQ (memL tblCha W) f s n c e (64 * i) cells (cellsI .u8 (n + e) (ext (strF (cellsI .u8 32 k) (cellsI .u8 12 nn) cells f) (64 * i))) k nn g1 g2 e1 e2 z) (by
        refine held_cons (by rw [decide_eq_true_eq]; omega) (held_cons hk (held_cons hnn (held_cons hd (held_cons (blkB_block _ _ _) (held_cons ?_ (held_cons ?_ (held_one isB_cells)))))))
        · rw [decide_eq_true_eq]
          exact ⟨rfl, rfl, by omega, rfl, by omega, by omega, hn⟩
        · rw [isB_cells, tailZ_ext]; rfl)
      have e1' : IntKind.i64.wrap (((64 * i : Nat) : Int) + 64) = ((64 * (i + 1) : Nat) : Int) := by rw [Ab.wrap_i64 (by omega) (by omega)]; omega
      have ee : n + e - n = e := by omega
      have ex : cellsI .u8 (n + e) (ext (xF cells f (blkQ k nn ((64 * i : Nat) : Int)) (64 * i) (cellsI .u8 (n + e) (ext (strF (cellsI .u8 32 k) (cellsI .u8 12 nn) cells f) (64 * i)))) (mO n (i + 1))) = cellsI .u8 (n + e) (ext (strF (cellsI .u8 32 k) (cellsI .u8 12 nn) cells f) (mO n (i + 1))) := cellsI_congr fun p hp => by
        unfold ext
        cases hb : Nat.blt p (mO n (i + 1)) with
        | false => rfl
        | true =>
          have hp2 := Nat.blt_eq.mp hb
          simp only [cond_true]
          rw [← xF_str (i := i) p (by unfold mO at hp2; omega)]
          unfold blkQ xF
          rw [ec]
          cases hb2 : Nat.blt p (64 * i) with
          | false => rfl
          | true =>
            simp only [cond_true]
            rw [wd_cellsI hp, wd_cellsI (Nat.blt_eq.mp hb2), hb2]
            rfl
      unfold vsQ' at h
      rw [e1', m2, ee, ex] at h
      rw [m1]
      exact ⟨z', h⟩)
    (fun z => by
      have em : mO n ((n + 63) / 64) = n := by unfold mO; omega
      rw [em]
      obtain ⟨z', h⟩ := big_view (ovX_ok _ _) nilC mix (hooksOk_nil _) (lastQ (memL tblCha W) f s n c e ((64 * ((n + 63) / 64) : Nat) : Int) (hsO cells (cellsI .u8 (n + e) (ext (strF (cellsI .u8 32 k) (cellsI .u8 12 nn) cells f) n)) k nn g1 g2 e1 e2) z) (held_one (by rw [decide_eq_false_iff_not]; omega))
      exact ⟨z', Big.toK h⟩) z
  have e0 : mO n 0 = 0 := by unfold mO; omega
  rw [e0] at hz
  exact ⟨z', block_big hz⟩

def hookQ (vs : List Value) (H : AHeap) : Option (AExit × List Value × AHeap × Pins) :=
  match vs, H with
  | [.slice (some ⟨0, f, some s⟩) n c, .pointer (some ⟨1, 0, some 32⟩), .pointer (some ⟨2, 0, some 12⟩), .slice (some ⟨3, 0, some sp⟩) n' cc, .int .i64 0], [some ⟨cells, true, 1, true⟩, some ⟨K, g1, e1, true⟩, some ⟨N, g2, e2, true⟩, some ⟨X, true, 1, true⟩] =>
    some (.normal, vsQ f s n c 16 ((64 * ((n + 63) / 64) : Nat) : Int), hsO cells (cellsI .u8 (n + 16) (ext (strF (cellsI .u8 32 (wd K)) (cellsI .u8 12 (wd N)) cells f) n)) (wd K) (wd N) g1 g2 e1 e2,
      [(dataB cells s f n c && Nat.ble n 1048576, true), (isB 32 K && rngB K, true), (isB 12 N && rngB N, true), (decide (sp = n + 16 ∧ n' = n ∧ cc = n + 16), true), (isZ (n + 16) X, true)])
  | _, _ => none

theorem hookQ_ok (W : World) : HooksOk Tryd.prog (memL tblCha W) [(0, mkHook Tryd.prog (memL tblCha W) 0 (.loop loopQ) 57 liveO hookQ liveO)] (Tryd.f51.body.getD .skip) := by
  refine hooks_one occQ (mkHook_ok fun vs H0 e V H p z hf hp => ?_)
  unfold hookQ at hf
  split at hf
  · rename_i f s n c sp n' cc cells K g1 e1 N g2 e2 X
    cases hf
    have p1 := hp (_, true) (List.Mem.head _)
    have p2 := hp (_, true) (List.Mem.tail _ (List.Mem.head _))
    have p3 := hp (_, true) (List.Mem.tail _ (List.Mem.tail _ (List.Mem.head _)))
    have p4 := hp (_, true) (List.Mem.tail _ (List.Mem.tail _ (List.Mem.tail _ (List.Mem.head _))))
    have p5 := hp (_, true) (List.Mem.tail _ (List.Mem.tail _ (List.Mem.tail _ (List.Mem.tail _ (List.Mem.head _)))))
    simp only [Bool.and_eq_true] at p1 p2 p3
    simp only [decide_eq_true_eq] at p4
    obtain ⟨h1, h2, h3⟩ := p4
    subst h1
    subst h2
    subst h3
    have eK := isB_eq p2.1
    have eN := isB_eq p3.1
    have hk : rngB (cellsI .u8 32 (wd K)) = true := by rw [← eK]; exact p2.2
    have hn : rngB (cellsI .u8 12 (wd N)) = true := by rw [← eN]; exact p3.2
    have := outerQ W (e := 16) p1.1 (Nat.le_of_ble_eq_true p1.2) hk hn g1 g2 e1 e2 z
    have eH : hsO cells (cellsI .u8 (n' + 16) (ext (strF (cellsI .u8 32 (wd K)) (cellsI .u8 12 (wd N)) cells f) 0)) (wd K) (wd N) g1 g2 e1 e2 = [some ⟨cells, true, 1, true⟩, some ⟨K, g1, e1, true⟩, some ⟨N, g2, e2, true⟩, some ⟨X, true, 1, true⟩] := by
      have ez := isZ_eq p5 (strF (cellsI .u8 32 (wd K)) (cellsI .u8 12 (wd N)) cells f)
      unfold hsO
      rw [← eK, ← eN] at *
      rw [ez]
      rfl
    rw [eH] at this
    exact this
  · cases hf

def cI (n : Nat) : Nat := (IntKind.i64.wrap ((n : Int) + 16)).toNat
set_option maxRecDepth 100000 in
theorem r51 (W : World) (k nn : Nat → Int) (f s n c : Nat) (cells : List Value) : evFU Tryd.prog (memL tblCha W) (ovX Tryd.prog (memL tblCha W)) [16] [(0, mkHook Tryd.prog (memL tblCha W) 0 (.loop loopQ) 57 liveO hookQ liveO)] [] [] 500 Tryd.f51 [.agg ⟨cellsI .u8 32 k⟩, .agg ⟨cellsI .u8 12 nn⟩, .slice (some ⟨0, f, some s⟩) n c] [⟨cells, true, 1, true⟩] []
   = some ((.slice (some ⟨1, 0, some (n + 16)⟩) n (n + 16), [⟨cells, true, 1, true⟩], [⟨cellsI .u8 (n + 16) (ext (strF (cellsI .u8 32 k) (cellsI .u8 12 nn) cells f) n), true, 1, true⟩]),
      [(mkB 1 n (IntKind.i64.wrap ((n : Int) + 16)), true), (dataB cells s f n c && Nat.ble n 1048576, true), (isB 32 (cellsI .u8 32 k) && rngB (cellsI .u8 32 k), true), (isB 12 (cellsI .u8 12 nn) && rngB (cellsI .u8 12 nn), true), (decide (cI n * 1 = n + 16 ∧ n = n ∧ cI n = n + 16), true), (isZ (n + 16) (zcells [.int .u8 0] (cI n)), true)]) := by kernel_rfl

theorem stream51 (W : World) : (streamSum 51 16).SoundC Tryd.prog (memL tblCha W) := streamSum_sound Tryd.func51 (by kernel_rfl) (by kernel_rfl) fun k nn f s n c cells hk hn hd h => by
  have e : cI n = n + 16 := by unfold cI; rw [Ab.wrap_i64 (by omega) (by omega)]; omega
  exact acalls_of_evFU (ovX_ok _ _) nilC mix Tryd.func51 (hookQ_ok W) (r51 W k nn f s n c cells) (by
    refine held_cons ?_ (held_cons (by rw [hd]; exact Nat.ble_eq_true_of_le h) (held_cons (by rw [isB_cells, rngB_cellsI hk]; rfl) (held_cons (by rw [isB_cells, rngB_cellsI hn]; rfl) (held_cons ?_ (held_one ?_)))))
    · simp only [mkB, Bool.and_eq_true, decide_eq_true_eq]
      rw [Ab.wrap_i64 (by omega) (by omega)]
      omega
    · rw [decide_eq_true_eq, e]
      exact ⟨by omega, rfl, rfl⟩
    · rw [e]; exact isZ_zero _)

end Go.Proofs.YtgnbmjhljlbkhaaDoor
