/- The specification's stream: its inner loop.
   Conditions: bytes in range. -/
import Derived.Test.YtgnbmjhljlbkhaaDoorGA
import Derived.Test.YtgnbmjhljlbkhaaDoorHCha
open Go.Ab Go.Num
set_option linter.unusedVariables false
set_option linter.unusedSimpArgs false
namespace Go.Proofs.YtgnbmjhljlbkhaaDoor

noncomputable def loopI : Code := loopOf 2 (Tryd.f49.body.getD .skip)
noncomputable def loopO : Code := loopOf 0 (Tryd.f49.body.getD .skip)
set_option maxRecDepth 100000 in
theorem occO : occ 0 (Tryd.f49.body.getD .skip) = [.loop loopO] := by kernel_rfl
set_option maxRecDepth 100000 in
theorem occI : occ 2 loopO = [.loop loopI] := by kernel_rfl

def vsI (f s n c sp m : Nat) (at0 j : Int) : List Value := [.slice (some ⟨0, f, some s⟩) n c, .pointer (some ⟨1, 0, some 32⟩), .pointer (some ⟨2, 0, some 12⟩), .slice (some ⟨3, 0, some sp⟩) m m, .int .i64 at0, .pointer (some ⟨4, 0, some 64⟩), .int .i64 j]
def hsI (cells X B : List Value) (k : Nat → Int) (g1 : Bool) (e1 : Nat) (o2 : AObj) (gb : Bool) (eb : Nat) : AHeap := [some ⟨cells, true, 1, true⟩, some ⟨cellsI .u8 32 k, g1, e1, true⟩, ob o2, some ⟨X, true, 1, true⟩, some ⟨B, gb, eb, true⟩]

set_option maxRecDepth 100000 in
theorem stepI (M : Mem) (f s n c m : Nat) (at0 j : Int) (cells X B : List Value) (k : Nat → Int) (g1 : Bool) (e1 : Nat) (o2 : AObj) (gb : Bool) (eb : Nat) (z : Nat → Value) :
   viewK liveI [] 5 1 (evU Tryd.prog M (ovX Tryd.prog M) [42, 43, 45, 46, 49] [] [] [26, 33] 300 loopI ⟨mkT 51 liveI (vsI f s n c m m at0 j) z, hsI cells X B k g1 e1 o2 gb eb⟩ [true, true])
   = some (.normal, vsI f s n c ((m + 1) * 1) (m + 1) at0 (IntKind.i64.wrap (j + 1)), hsI cells (X.take (m * 1) ++ [.int .u8 (xorAt cells f B at0 j)]) B k g1 e1 o2 gb eb, 51, inPins cells X B f s n m at0 j gb eb) := by kernel_rfl

set_option maxRecDepth 100000 in
theorem lastI (M : Mem) (f s n c m : Nat) (at0 j : Int) (H : AHeap) (z : Nat → Value) :
   viewU liveI (evU Tryd.prog M (ovX Tryd.prog M) [42, 43, 45, 46, 49] [] [] [26, 33] 300 loopI ⟨mkT 51 liveI (vsI f s n c m m at0 j) z, H⟩ [true, false])
   = some (.exit 2, vsI f s n c m m at0 j, H, 51, [(decide (j < 64), true), (decide (IntKind.i64.wrap (at0 + j) < n), false)]) := by kernel_rfl
set_option maxRecDepth 100000 in
theorem fullI (M : Mem) (f s n c m : Nat) (at0 j : Int) (H : AHeap) (z : Nat → Value) :
   viewU liveI (evU Tryd.prog M (ovX Tryd.prog M) [42, 43, 45, 46, 49] [] [] [26, 33] 300 loopI ⟨mkT 51 liveI (vsI f s n c m m at0 j) z, H⟩ [false])
   = some (.exit 2, vsI f s n c m m at0 j, H, 51, [(decide (j < 64), false)]) := by kernel_rfl

theorem innerI (M : Mem) {f s n c a : Nat} {cells B : List Value} (hd : dataB cells s f n c = true) (hB : blkB B = true) (hn : n ≤ 1048576) (ha : a ≤ n) (F : Nat → Int) (hF : ∀ j, j < 64 → F (a + j) = bits .xor .u8 (wd cells (f + (a + j))) (wd B j))
    (k : Nat → Int) (g1 : Bool) (e1 : Nat) (o2 : AObj) (gb : Bool) (eb : Nat) (z : Nat → Value) :
    ∃ z', Big Tryd.prog M (.block 2 (.loop loopI)) ⟨mkT 51 liveI (vsI f s n c a a a 0) z, hsI cells (cellsI .u8 a F) B k g1 e1 o2 gb eb⟩ .normal
      ⟨mkT 51 liveI (vsI f s n c (a + jS n a) (a + jS n a) a (jS n a : Nat)) z', hsI cells (cellsI .u8 (a + jS n a) F) B k g1 e1 o2 gb eb⟩ := by
  obtain ⟨hj1, hj2⟩ := jS_le n a
  obtain ⟨z', hz⟩ := loop_bigK (k := 5) (P := Tryd.prog) (M := M) (c := loopI) (N := 51) (n := jS n a) (live := liveI) (live' := liveI) (V := fun j => vsI f s n c (a + j) (a + j) a (j : Nat)) (H := fun j => hsI cells (cellsI .u8 (a + j) F) B k g1 e1 o2 gb eb) (e := .exit 2)
    (V' := vsI f s n c (a + jS n a) (a + jS n a) a (jS n a : Nat)) (H' := hsI cells (cellsI .u8 (a + jS n a) F) B k g1 e1 o2 gb eb) (by simp) (Nat.le_refl 5)
    (fun j hj z => by
      obtain ⟨z', h⟩ := bigK_view (ovX_ok _ _) nilC mix (hooksOk_nil _) (stepI M f s n c (a + j) a j cells (cellsI .u8 (a + j) F) B k g1 e1 o2 gb eb z) (inPins_held hd hB (by omega) (by omega) (apB_ok (by omega)))
      have e1' : IntKind.i64.wrap ((j : Int) + 1) = ((j + 1 : Nat) : Int) := by rw [Ab.wrap_i64 (by omega) (by omega)]; omega
      rw [e1', xorAt_eq (by omega), ← hF j (by omega), take_snoc, Nat.mul_one] at h
      exact ⟨z', h⟩)
    (fun z => by
      by_cases h64 : jS n a = 64
      · obtain ⟨z', h⟩ := big_view (ovX_ok _ _) nilC mix (hooksOk_nil _) (fullI M f s n c (a + jS n a) a (jS n a : Nat) (hsI cells (cellsI .u8 (a + jS n a) F) B k g1 e1 o2 gb eb) z) (held_one (by rw [decide_eq_false_iff_not]; omega))
        exact ⟨z', Big.toK h⟩
      · obtain ⟨z', h⟩ := big_view (ovX_ok _ _) nilC mix (hooksOk_nil _) (lastI M f s n c (a + jS n a) a (jS n a : Nat) (hsI cells (cellsI .u8 (a + jS n a) F) B k g1 e1 o2 gb eb) z) (held_cons (by rw [decide_eq_true_eq]; omega) (held_one (by
          have : jS n a = n - a := by unfold jS at *; omega
          rw [decide_eq_false_iff_not, (atJ_eq (a := a) (j := jS n a) (by omega)).1]
          omega)))
        exact ⟨z', Big.toK h⟩) z
  exact ⟨z', block_big hz⟩

def hookI (vs : List Value) (H : AHeap) : Option (AExit × List Value × AHeap × Pins) :=
  match vs, H with
  | [.slice (some ⟨0, f, some s⟩) n c, .pointer (some ⟨1, 0, some 32⟩), .pointer (some ⟨2, 0, some 12⟩), .slice (some ⟨3, 0, some sp⟩) m m', .int .i64 at0, .pointer (some ⟨4, 0, some 64⟩), .int .i64 0], [some ⟨cells, true, 1, true⟩, some ⟨K, g1, e1, true⟩, some ⟨N, g2, e2, true⟩, some ⟨X, true, 1, true⟩, some ⟨B, gb, eb, true⟩] =>
    some (.normal, vsI f s n c (m + jS n m) (m + jS n m) m (jS n m : Nat), hsI cells (cellsI .u8 (m + jS n m) (xF cells f B m X)) B (wd K) g1 e1 ⟨N, g2, e2, true⟩ gb eb,
      [(dataB cells s f n c, true), (blkB B, true), (decide (sp = m ∧ m' = m ∧ at0 = (m : Int) ∧ m ≤ n ∧ n ≤ 1048576), true), (isB m X, true), (isB 32 K, true)])
  | _, _ => none

theorem hookI_ok (M : Mem) : HooksOk Tryd.prog M [(2, mkHook Tryd.prog M 2 (.loop loopI) 51 liveI hookI liveI)] loopO := by
  refine hooks_one occI (mkHook_ok fun vs H0 e V H p z hf hp => ?_)
  unfold hookI at hf
  split at hf
  · rename_i f s n c sp m m' at0 cells K g1 e1 N g2 e2 X B gb eb
    cases hf
    have p1 := hp (_, true) (List.Mem.head _)
    have p2 := hp (_, true) (List.Mem.tail _ (List.Mem.head _))
    have p3 := hp (_, true) (List.Mem.tail _ (List.Mem.tail _ (List.Mem.head _)))
    have p4 := hp (_, true) (List.Mem.tail _ (List.Mem.tail _ (List.Mem.tail _ (List.Mem.head _))))
    have p5 := hp (_, true) (List.Mem.tail _ (List.Mem.tail _ (List.Mem.tail _ (List.Mem.tail _ (List.Mem.head _)))))
    simp only [decide_eq_true_eq] at p3
    obtain ⟨rfl, rfl, rfl, hm, hn⟩ := p3
    have := innerI M p1 p2 hn hm (xF cells f B m' X) (fun j hj => by
      have hb : Nat.blt (m' + j) m' = false := by rw [Bool.eq_false_iff]; exact fun e => by have := Nat.blt_eq.mp e; omega
      unfold xF
      rw [hb, show m' + j - m' = j by omega]
      rfl) (wd K) g1 e1 ⟨N, g2, e2, true⟩ gb eb z
    have eX : cellsI .u8 m' (xF cells f B m' X) = X := by
      have e := isB_eq p4
      have : cellsI .u8 m' (xF cells f B m' X) = cellsI .u8 m' (wd X) := cellsI_congr fun i hi => by
        have hb : Nat.blt i m' = true := Nat.blt_eq.mpr hi
        simp [xF, hb]
      rw [this, ← e]
    have eH : hsI cells (cellsI .u8 m' (xF cells f B m' X)) B (wd K) g1 e1 ⟨N, g2, e2, true⟩ gb eb = [some ⟨cells, true, 1, true⟩, some ⟨K, g1, e1, true⟩, some ⟨N, g2, e2, true⟩, some ⟨X, true, 1, true⟩, some ⟨B, gb, eb, true⟩] := by
      unfold hsI
      rw [eX, ← isB_eq p5]
      rfl
    rw [eH] at this
    exact this
  · cases hf

def vsO (f s n c sp m : Nat) (at0 : Int) : List Value := [.slice (some ⟨0, f, some s⟩) n c, .pointer (some ⟨1, 0, some 32⟩), .pointer (some ⟨2, 0, some 12⟩), .slice (some ⟨3, 0, some sp⟩) m m, .int .i64 at0]
def hsO (cells X : List Value) (k nn : Nat → Int) (g1 g2 : Bool) (e1 e2 : Nat) : AHeap := [some ⟨cells, true, 1, true⟩, some ⟨cellsI .u8 32 k, g1, e1, true⟩, some ⟨cellsI .u8 12 nn, g2, e2, true⟩, some ⟨X, true, 1, true⟩]
def blkO (k nn : Nat → Int) (at0 : Int) : List Value := blockF (wd (cellsI .u8 32 k)) (ctrS at0) (wd (cellsI .u8 12 nn))

set_option maxRecDepth 100000 in
theorem stepO (M : Mem) (f s n c m : Nat) (at0 : Int) (cells X : List Value) (k nn : Nat → Int) (g1 g2 : Bool) (e1 e2 : Nat) (z : Nat → Value) :
   viewK liveO [] 4 1 (evU Tryd.prog M (ovX Tryd.prog M) [] [(2, mkHook Tryd.prog M 2 (.loop loopI) 51 liveI hookI liveI)] [chaSum 10] [15] 300 loopO ⟨mkT 51 liveO (vsO f s n c m m at0) z, hsO cells X k nn g1 g2 e1 e2⟩ [true])
   = some (.normal, vsO f s n c (m + jS n m) (m + jS n m) (IntKind.i64.wrap ((m : Int) + 64)), hsO cells (cellsI .u8 (m + jS n m) (xF cells f (blkO k nn at0) m X)) k nn g1 g2 e1 e2, 51,
     [(decide (at0 < n), true), (rngB (cellsI .u8 32 k), true), (rngB (cellsI .u8 12 nn), true), (dataB cells s f n c, true), (blkB (blkO k nn at0), true), (decide (m = m ∧ m = m ∧ at0 = (m : Int) ∧ m ≤ n ∧ n ≤ 1048576), true), (isB m X, true), (isB 32 (cellsI .u8 32 k), true)]) := by kernel_rfl

set_option maxRecDepth 100000 in
theorem lastO (M : Mem) (f s n c m : Nat) (at0 : Int) (H : AHeap) (z : Nat → Value) :
   viewU liveO (evU Tryd.prog M (ovX Tryd.prog M) [] [] [] [15] 300 loopO ⟨mkT 51 liveO (vsO f s n c m m at0) z, H⟩ [false])
   = some (.exit 0, vsO f s n c m m at0, H, 51, [(decide (at0 < n), false)]) := by kernel_rfl

theorem outerO (M : Mem) {f s n c : Nat} {cells : List Value} (hd : dataB cells s f n c = true) (hn : n ≤ 1048576) {k nn : Nat → Int} (hk : rngB (cellsI .u8 32 k) = true) (hnn : rngB (cellsI .u8 12 nn) = true) (g1 g2 : Bool) (e1 e2 : Nat) (z : Nat → Value) :
    ∃ z', Big Tryd.prog M (.block 0 (.loop loopO)) ⟨mkT 51 liveO (vsO f s n c 0 0 0) z, hsO cells [] k nn g1 g2 e1 e2⟩ .normal
      ⟨mkT 51 liveO (vsO f s n c n n ((64 * ((n + 63) / 64) : Nat) : Int)) z', hsO cells (cellsI .u8 n (strF (cellsI .u8 32 k) (cellsI .u8 12 nn) cells f)) k nn g1 g2 e1 e2⟩ := by
  obtain ⟨z', hz⟩ := loop_bigK (k := 4) (P := Tryd.prog) (M := M) (c := loopO) (N := 51) (n := (n + 63) / 64) (live := liveO) (live' := liveO) (V := fun i => vsO f s n c (mO n i) (mO n i) ((64 * i : Nat) : Int))
    (H := fun i => hsO cells (cellsI .u8 (mO n i) (strF (cellsI .u8 32 k) (cellsI .u8 12 nn) cells f)) k nn g1 g2 e1 e2) (e := .exit 0)
    (V' := vsO f s n c n n ((64 * ((n + 63) / 64) : Nat) : Int)) (H' := hsO cells (cellsI .u8 n (strF (cellsI .u8 32 k) (cellsI .u8 12 nn) cells f)) k nn g1 g2 e1 e2) (by simp) (Nat.le_refl 4)
    (fun i hi z => by
      obtain ⟨m1, m2⟩ := mO_step (n := n) (i := i) (by omega)
      have ec := (ctrS_eq (i := i) (by omega)).1
      obtain ⟨z', h⟩ := bigK_view (ovX_ok _ _) (consC (cha10 M) nilC) mix (hookI_ok M) (stepO M f s n c (64 * i) ((64 * i : Nat) : Int) cells (cellsI .u8 (64 * i) (strF (cellsI .u8 32 k) (cellsI .u8 12 nn) cells f)) k nn g1 g2 e1 e2 z) (by
        refine held_cons (by rw [decide_eq_true_eq]; omega) (held_cons hk (held_cons hnn (held_cons hd (held_cons (blkB_block _ _ _) (held_cons ?_ (held_cons isB_cells (held_one isB_cells)))))))
        rw [decide_eq_true_eq]
        exact ⟨rfl, rfl, rfl, by omega, hn⟩)
      have e1' : IntKind.i64.wrap (((64 * i : Nat) : Int) + 64) = ((64 * (i + 1) : Nat) : Int) := by rw [Ab.wrap_i64 (by omega) (by omega)]; omega
      have ex : cellsI .u8 (mO n (i + 1)) (xF cells f (blkO k nn ((64 * i : Nat) : Int)) (64 * i) (cellsI .u8 (64 * i) (strF (cellsI .u8 32 k) (cellsI .u8 12 nn) cells f))) = cellsI .u8 (mO n (i + 1)) (strF (cellsI .u8 32 k) (cellsI .u8 12 nn) cells f) := cellsI_congr fun p hp => by
        unfold blkO
        rw [ec]
        exact xF_str p (by unfold mO at hp; omega)
      rw [e1', m2, ex] at h
      rw [m1]
      exact ⟨z', h⟩)
    (fun z => by
      have em : mO n ((n + 63) / 64) = n := by unfold mO; omega
      rw [em]
      obtain ⟨z', h⟩ := big_view (ovX_ok _ _) nilC mix (hooksOk_nil _) (lastO M f s n c n ((64 * ((n + 63) / 64) : Nat) : Int) (hsO cells (cellsI .u8 n (strF (cellsI .u8 32 k) (cellsI .u8 12 nn) cells f)) k nn g1 g2 e1 e2) z) (held_one (by rw [decide_eq_false_iff_not]; omega))
      exact ⟨z', Big.toK h⟩) z
  have e0 : mO n 0 = 0 := by unfold mO; omega
  rw [e0] at hz
  exact ⟨z', block_big hz⟩

def hookO (vs : List Value) (H : AHeap) : Option (AExit × List Value × AHeap × Pins) :=
  match vs, H with
  | [.slice (some ⟨0, f, some s⟩) n c, .pointer (some ⟨1, 0, some 32⟩), .pointer (some ⟨2, 0, some 12⟩), .slice (some ⟨3, 0, some 0⟩) 0 0, .int .i64 0], [some ⟨cells, true, 1, true⟩, some ⟨K, g1, e1, true⟩, some ⟨N, g2, e2, true⟩, some ⟨[], true, 1, true⟩] =>
    some (.normal, vsO f s n c n n ((64 * ((n + 63) / 64) : Nat) : Int), hsO cells (cellsI .u8 n (strF (cellsI .u8 32 (wd K)) (cellsI .u8 12 (wd N)) cells f)) (wd K) (wd N) g1 g2 e1 e2,
      [(dataB cells s f n c && Nat.ble n 1048576, true), (isB 32 K && rngB K, true), (isB 12 N && rngB N, true)])
  | _, _ => none

theorem hookO_ok (M : Mem) : HooksOk Tryd.prog M [(0, mkHook Tryd.prog M 0 (.loop loopO) 51 liveO hookO liveO)] (Tryd.f49.body.getD .skip) := by
  refine hooks_one occO (mkHook_ok fun vs H0 e V H p z hf hp => ?_)
  unfold hookO at hf
  split at hf
  · rename_i f s n c cells K g1 e1 N g2 e2
    cases hf
    have p1 := hp (_, true) (List.Mem.head _)
    have p2 := hp (_, true) (List.Mem.tail _ (List.Mem.head _))
    have p3 := hp (_, true) (List.Mem.tail _ (List.Mem.tail _ (List.Mem.head _)))
    simp only [Bool.and_eq_true] at p1 p2 p3
    have eK := isB_eq p2.1
    have eN := isB_eq p3.1
    have hk : rngB (cellsI .u8 32 (wd K)) = true := by rw [← eK]; exact p2.2
    have hn : rngB (cellsI .u8 12 (wd N)) = true := by rw [← eN]; exact p3.2
    have := outerO M p1.1 (Nat.le_of_ble_eq_true p1.2) hk hn g1 g2 e1 e2 z
    have eH : hsO cells [] (wd K) (wd N) g1 g2 e1 e2 = [some ⟨cells, true, 1, true⟩, some ⟨K, g1, e1, true⟩, some ⟨N, g2, e2, true⟩, some ⟨[], true, 1, true⟩] := by
      unfold hsO
      rw [← eK, ← eN]
    rw [eH] at this
    exact this
  · cases hf

set_option maxRecDepth 100000 in
theorem r49 (M : Mem) (k nn : Nat → Int) (f s n c : Nat) (cells : List Value) : evFU Tryd.prog M (ovX Tryd.prog M) [] [(0, mkHook Tryd.prog M 0 (.loop loopO) 51 liveO hookO liveO)] [] [] 500 Tryd.f49 [.agg ⟨cellsI .u8 32 k⟩, .agg ⟨cellsI .u8 12 nn⟩, .slice (some ⟨0, f, some s⟩) n c] [⟨cells, true, 1, true⟩] []
   = some ((.slice (some ⟨1, 0, some n⟩) n n, [⟨cells, true, 1, true⟩], [⟨cellsI .u8 n (strF (cellsI .u8 32 k) (cellsI .u8 12 nn) cells f), true, 1, true⟩]),
      [(dataB cells s f n c && Nat.ble n 1048576, true), (isB 32 (cellsI .u8 32 k) && rngB (cellsI .u8 32 k), true), (isB 12 (cellsI .u8 12 nn) && rngB (cellsI .u8 12 nn), true)]) := by kernel_rfl

theorem stream49 (M : Mem) : (streamSum 49 0).SoundC Tryd.prog M := streamSum_sound Tryd.func49 (by kernel_rfl) (by kernel_rfl) fun k nn f s n c cells hk hn hd h => by
  have := acalls_of_evFU (ovX_ok _ _) nilC mix Tryd.func49 (hookO_ok M) (r49 M k nn f s n c cells) (held_cons (by rw [hd]; exact Nat.ble_eq_true_of_le h) (held_cons (by rw [isB_cells, rngB_cellsI hk]; rfl) (held_one (by rw [isB_cells, rngB_cellsI hn]; rfl))))
  have e : cellsI .u8 n (strF (cellsI .u8 32 k) (cellsI .u8 12 nn) cells f) = cellsI .u8 n (ext (strF (cellsI .u8 32 k) (cellsI .u8 12 nn) cells f) n) := cellsI_congr fun i hi => by
    have hb : Nat.blt i n = true := Nat.blt_eq.mpr hi
    simp [ext, hb]
  rw [e] at this
  exact this

end Go.Proofs.YtgnbmjhljlbkhaaDoor
