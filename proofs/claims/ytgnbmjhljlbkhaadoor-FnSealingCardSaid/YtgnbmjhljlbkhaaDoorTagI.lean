/- The program's boxTag: its contract.
   Conditions: bytes in range. -/
import Derived.Test.YtgnbmjhljlbkhaaDoorGA
import Derived.Test.YtgnbmjhljlbkhaaDoorTagS2
open Go.Ab Go.Num
set_option linter.unusedVariables false
set_option linter.unusedSimpArgs false
namespace Go.Proofs.YtgnbmjhljlbkhaaDoor

set_option maxRecDepth 100000 in
theorem r64 (M : Mem) (s l cp : Nat) (v : Int) (X : List Value) : evFU Tryd.prog M (ovR Tryd.prog M) [19] [] [] [] 300 Tryd.f64 [.slice (some ⟨0, 0, some s⟩) l cp, .int .u64 v, .int .i64 8] [⟨X, true, 1, true⟩] []
   = some ((.slice (some ⟨0, 0, some s⟩) (l + 8) cp, [⟨layC X l v 8, true, 1, true⟩], []), layPins X s l cp v 8) := by kernel_rfl
theorem lay64 (M : Mem) : (lay8Sum 64).SoundC Tryd.prog M := lay8Sum_sound Tryd.func64 (by kernel_rfl) (by kernel_rfl) fun s l cp v X h => acalls_of_evFU (ovR_ok _ _) nilC mix Tryd.func64 (hooksOk_nil _) (r64 M s l cp v X) h

noncomputable def loopG : Code := loopOf 2 (Tryd.f52.body.getD .skip)
set_option maxRecDepth 100000 in
theorem occG : occ 2 (Tryd.f52.body.getD .skip) = [.loop loopG] := by kernel_rfl

def liveG : List Nat := [2, 3, 8, 9, 10, 25, 26, 27]
structure QG where
  (f1 s1 n c f2 s2 m d : Nat)
  (a0 a1 a2 a3 a4 a5 : List Value)
  (g2 g3 g4 g5 : Bool)
  (e2 e3 e4 e5 : Nat)
  j : Int
def vsG (q : QG) (cp l : Nat) : List Value := [.slice (some ⟨0, q.f1, some q.s1⟩) q.n q.c, .slice (some ⟨1, q.f2, some q.s2⟩) q.m q.d, .pointer (some ⟨4, 0, some 16⟩), .pointer (some ⟨5, 0, some 64⟩), .slice (some ⟨6, 0, some cp⟩) l cp, .slice (some ⟨7, 0, some 2⟩) 2 2, .int .i64 2, .int .i64 q.j]
def hsG (q : QG) (X : List Value) : AHeap := [some ⟨q.a0, true, 1, true⟩, some ⟨q.a1, true, 1, true⟩, some ⟨q.a2, q.g2, q.e2, true⟩, some ⟨q.a3, q.g3, q.e3, true⟩, some ⟨q.a4, q.g4, q.e4, true⟩, some ⟨q.a5, q.g5, q.e5, true⟩, some ⟨X, true, 1, true⟩, some ⟨[.slice (some ⟨1, q.f2, some q.s2⟩) q.m q.d, .slice (some ⟨0, q.f1, some q.s1⟩) q.n q.c], true, 1, false⟩]

set_option maxRecDepth 100000 in
theorem stepG (M : Mem) (q : QG) (cp l : Nat) (X : List Value) (z : Nat → Value) :
   viewK liveG [] 8 7 (evU Tryd.prog M (ovR Tryd.prog M) [40] [] [] [37] 300 loopG ⟨mkT 56 liveG (vsG q cp l) z, hsG q X⟩ [true])
   = some (.normal, vsG q cp (l + 1), hsG q (wr X (0 + l * 1) [.int .u8 0]), 56, [(rem16 l, true), (apR X cp l cp, true)]) := by kernel_rfl
set_option maxRecDepth 100000 in
theorem lastG (M : Mem) (q : QG) (cp l : Nat) (H : AHeap) (z : Nat → Value) :
   viewU liveG (evU Tryd.prog M (ovR Tryd.prog M) [40] [] [] [37] 300 loopG ⟨mkT 56 liveG (vsG q cp l) z, H⟩ [false])
   = some (.exit 2, vsG q cp l, H, 56, [(rem16 l, false)]) := by kernel_rfl

theorem loopGB (M : Mem) (q : QG) {cp l : Nat} {X : List Value} (hX : isB cp X = true) (hz : tailZ X l cp = true) (hc : padN l ≤ cp) (z : Nat → Value) :
    ∃ z', Big Tryd.prog M (.block 2 (.loop loopG)) ⟨mkT 56 liveG (vsG q cp l) z, hsG q X⟩ .normal ⟨mkT 56 liveG (vsG q cp (padN l)) z', hsG q X⟩ := by
  have hp : l ≤ padN l ∧ padN l < l + 16 ∧ padN l % 16 = 0 := by unfold padN; omega
  have hl : X.length = cp := by simp only [isB, Bool.and_eq_true] at hX; exact Nat.eq_of_beq_eq_true hX.1
  obtain ⟨z', hz⟩ := loop_bigK (k := 8) (P := Tryd.prog) (M := M) (c := loopG) (N := 56) (n := padN l - l) (live := liveG) (live' := liveG) (V := fun i => vsG q cp (l + i)) (H := fun i => hsG q X) (e := .exit 2)
    (V' := vsG q cp (padN l)) (H' := hsG q X) (by simp) (Nat.le_refl 8)
    (fun i hi z => by
      have hr : rem16 (l + i) = true := by rw [rem16_eq, bne_iff_ne]; unfold padN at hi; omega
      obtain ⟨z', h⟩ := bigK_view (ovR_ok _ _) nilC mix (hooksOk_nil _) (stepG M q cp (l + i) X z) (held_cons hr (held_one (apR_ok hl (by omega) (Nat.le_refl cp))))
      rw [show 0 + (l + i) * 1 = l + i by omega, wr_zero hX (by omega) (tailZ_at hz (by omega) (by omega))] at h
      exact ⟨z', h⟩)
    (fun z => by
      have e : l + (padN l - l) = padN l := by omega
      rw [e]
      obtain ⟨z', h⟩ := big_view (ovR_ok _ _) nilC mix (hooksOk_nil _) (lastG M q cp (padN l) (hsG q X) z) (held_one (by rw [rem16_eq, hp.2.2]; rfl))
      exact ⟨z', Big.toK h⟩) z
  exact ⟨z', block_big hz⟩

def hookG (vs : List Value) (H : AHeap) : Option (AExit × List Value × AHeap × Pins) :=
  match vs, H with
  | [.slice (some ⟨0, f1, some s1⟩) n c, .slice (some ⟨1, f2, some s2⟩) m d, .pointer (some ⟨4, 0, some 16⟩), .pointer (some ⟨5, 0, some 64⟩), .slice (some ⟨6, 0, some sp⟩) l cp, .slice (some ⟨7, 0, some 2⟩) 2 2, .int .i64 2, .int .i64 j],
    [some ⟨a0, true, 1, true⟩, some ⟨a1, true, 1, true⟩, some ⟨a2, g2, e2, true⟩, some ⟨a3, g3, e3, true⟩, some ⟨a4, g4, e4, true⟩, some ⟨a5, g5, e5, true⟩, some ⟨X, true, 1, true⟩, some ⟨[.slice (some ⟨1, f2', some s2'⟩) m' d', .slice (some ⟨0, f1', some s1'⟩) n' c'], true, 1, false⟩] =>
    some (.normal, vsG ⟨f1, s1, n, c, f2, s2, m, d, a0, a1, a2, a3, a4, a5, g2, g3, g4, g5, e2, e3, e4, e5, j⟩ cp (padN l), hsG ⟨f1, s1, n, c, f2, s2, m, d, a0, a1, a2, a3, a4, a5, g2, g3, g4, g5, e2, e3, e4, e5, j⟩ X,
      [(decide (sp = cp ∧ f1' = f1 ∧ s1' = s1 ∧ n' = n ∧ c' = c ∧ f2' = f2 ∧ s2' = s2 ∧ m' = m ∧ d' = d), true), (isB cp X && tailZ X l cp, true), (decide (padN l ≤ cp), true)])
  | _, _ => none

theorem hookG_ok (M : Mem) : HooksOk Tryd.prog M [(2, mkHook Tryd.prog M 2 (.loop loopG) 56 liveG hookG liveG)] (Tryd.f52.body.getD .skip) := by
  refine hooks_one occG (mkHook_ok fun vs H0 e V H p z hf hp => ?_)
  unfold hookG at hf
  split at hf
  · rename_i f1 s1 n c f2 s2 m d sp l cp j a0 a1 a2 g2 e2 a3 g3 e3 a4 g4 e4 a5 g5 e5 X f2' s2' m' d' f1' s1' n' c'
    cases hf
    have p1 := hp (_, true) (List.Mem.head _)
    have p2 := hp (_, true) (List.Mem.tail _ (List.Mem.head _))
    have p3 := hp (_, true) (List.Mem.tail _ (List.Mem.tail _ (List.Mem.head _)))
    simp only [Bool.and_eq_true] at p2
    simp only [decide_eq_true_eq] at p1 p3
    obtain ⟨rfl, rfl, rfl, rfl, rfl, rfl, rfl, rfl, rfl⟩ := p1
    exact loopGB M ⟨f1', s1', n', c', f2', s2', m', d', a0, a1, a2, a3, a4, a5, g2, g3, g4, g5, e2, e3, e4, e5, j⟩ p2.1 p2.2 p3 z
  · cases hf

/-- The room that is made. -/
def cpB (n m : Nat) : Nat := (IntKind.i64.wrap (IntKind.i64.wrap ((n : Int) + m) + 48)).toNat
/-- Behind the first part, behind the second, behind the two lengths. -/
def x1B (n m : Nat) (Y : List Value) (f2 : Nat) : List Value := wr (zcells [.int .u8 0] (cpB n m)) (0 + 0 * 1) ((Y.drop f2).take (m * 1))
def l2B (n m : Nat) : Nat := padN (0 + m) + n
def x2B (n m : Nat) (X : List Value) (f1 : Nat) (Y : List Value) (f2 : Nat) : List Value := wr (x1B n m Y f2) (0 + padN (0 + m) * 1) ((X.drop f1).take (n * 1))
def x3B (n m : Nat) (X : List Value) (f1 : Nat) (Y : List Value) (f2 : Nat) : List Value := layC (layC (x2B n m X f1 Y f2) (padN (l2B n m)) (IntKind.u64.wrap m) 8) (padN (l2B n m) + 8) (IntKind.u64.wrap n) 8
def apB2 (Z Y : List Value) (sz l n cp s2 f2 d : Nat) : Bool := decide (l + n ≤ cp) && (decide (Z.length = sz) && (decide (0 + (l + n) * 1 ≤ sz) && (decide (Y.length = s2) && (decide (f2 + n * 1 ≤ s2) && decide (n ≤ n)))))
def eqB9 (sp cp f1 s1 n c f2 s2 m d : Nat) : Bool := decide (sp = cp ∧ f1 = f1 ∧ s1 = s1 ∧ n = n ∧ c = c ∧ f2 = f2 ∧ s2 = s2 ∧ m = m ∧ d = d)

def keyB0 (k nn : Nat → Int) : List Value := cellsI .u8 32 (wd (blockF (wd (cellsI .u8 32 k)) 0 (wd (cellsI .u8 12 nn))))
set_option maxRecDepth 100000 in
theorem r52 (M : Mem) (k nn : Nat → Int) (f1 s1 n c f2 s2 m d : Nat) (X Y : List Value) : evFU Tryd.prog M (ovR Tryd.prog M) [22, 33] [(2, mkHook Tryd.prog M 2 (.loop loopG) 56 liveG hookG liveG)] [chaSum 13, lay8Sum 64, polySum 65] [] 300 Tryd.f52 [.agg ⟨cellsI .u8 32 k⟩, .agg ⟨cellsI .u8 12 nn⟩, .slice (some ⟨0, f1, some s1⟩) n c, .slice (some ⟨1, f2, some s2⟩) m d] [⟨X, true, 1, true⟩, ⟨Y, true, 1, true⟩] []
   = some ((.agg ⟨tagF (wd (keyB0 k nn)) (x3B n m X f1 Y f2) 0 (padN (l2B n m) + 8 + 8)⟩, [⟨X, true, 1, true⟩, ⟨Y, true, 1, true⟩], []),
      [(rngB (cellsI .u8 32 k), true), (rngB (cellsI .u8 12 nn), true), (mkB 1 0 (IntKind.i64.wrap (IntKind.i64.wrap ((n : Int) + m) + 48)), true),
       (apB2 (zcells [.int .u8 0] (cpB n m)) Y (cpB n m * 1) 0 m (cpB n m) s2 f2 d, true), (eqB9 (cpB n m * 1) (cpB n m) f1 s1 n c f2 s2 m d, true), (isB (cpB n m) (x1B n m Y f2) && tailZ (x1B n m Y f2) (0 + m) (cpB n m), true), (decide (padN (0 + m) ≤ cpB n m), true),
       (apB2 (x1B n m Y f2) X (cpB n m) (padN (0 + m)) n (cpB n m) s1 f1 c, true), (eqB9 (cpB n m) (cpB n m) f1 s1 n c f2 s2 m d, true), (isB (cpB n m) (x2B n m X f1 Y f2) && tailZ (x2B n m X f1 Y f2) (l2B n m) (cpB n m), true), (decide (padN (l2B n m) ≤ cpB n m), true),
       (decide ((x2B n m X f1 Y f2).length = cpB n m ∧ padN (l2B n m) + 8 ≤ cpB n m ∧ cpB n m ≤ cpB n m), true), (decide ((layC (x2B n m X f1 Y f2) (padN (l2B n m)) (IntKind.u64.wrap m) 8).length = cpB n m ∧ padN (l2B n m) + 8 + 8 ≤ cpB n m ∧ cpB n m ≤ cpB n m), true),
       (rngB (keyB0 k nn), true), (dataB (x3B n m X f1 Y f2) (cpB n m) 0 (padN (l2B n m) + 8 + 8) (cpB n m), true)]) := by kernel_rfl

theorem zcells_cells (n : Nat) : zcells [.int .u8 0] n = cellsI .u8 n fun _ => 0 := by
  rw [zcells_one]
  apply List.ext_getElem (by simp [cellsI])
  intro i h1 h2
  simp [cellsI]

def f1B (m : Nat) (Y : List Value) (f2 : Nat) : Nat → Int := putF (fun _ => 0) 0 m (datF Y f2)
def f2B (n m : Nat) (X : List Value) (f1 : Nat) (Y : List Value) (f2 : Nat) : Nat → Int := putF (f1B m Y f2) (padN m) n (datF X f1)
def f3B (n m : Nat) (X : List Value) (f1 : Nat) (Y : List Value) (f2 : Nat) : Nat → Int := putF (putF (f2B n m X f1 Y f2) (padN m + padN n) 8 fun j => byteL j m) (padN m + padN n + 8) 8 fun j => byteL j n

theorem f3B_dF {n m : Nat} (hn : n ≤ 1048576) (hm : m ≤ 1048576) {X Y : List Value} {f1 f2 : Nat} : ∀ j, j < lenT n m → f3B n m X f1 Y f2 j = dF X f1 n Y f2 m j := by
  intro j hj
  have pn : n ≤ padN n := by unfold padN; omega
  have pm : m ≤ padN m := by unfold padN; omega
  have cat_lo : ∀ {a : Nat} {x y : Nat → Int} {i : Nat}, i < a → catF a x y i = x i := fun h => by simp [catF, Nat.blt_eq.mpr h]
  have cat_hi : ∀ {a : Nat} {x y : Nat → Int} {i : Nat}, a ≤ i → catF a x y i = y (i - a) := fun {a x y i} h => by
    have hb : Nat.blt i a = false := by rw [Bool.eq_false_iff]; exact fun e => by have := Nat.blt_eq.mp e; omega
    simp [catF, hb]
  have ext_lo : ∀ {x : Nat → Int} {a i : Nat}, i < a → ext x a i = x i := fun h => by simp [ext, Nat.blt_eq.mpr h]
  have ext_hi : ∀ {x : Nat → Int} {a i : Nat}, a ≤ i → ext x a i = 0 := fun {x a i} h => by
    have hb : Nat.blt i a = false := by rw [Bool.eq_false_iff]; exact fun e => by have := Nat.blt_eq.mp e; omega
    simp [ext, hb]
  have eb : ∀ (v k : Nat), v ≤ 1048576 → byteL k v = eE v k := fun v k hv => by rw [byteL_pow (by omega), eE_eq (by omega)]; rfl
  unfold lenT at hj
  unfold f3B dF
  by_cases h1 : j < padN m + padN n
  · rw [putF_lo (by omega), putF_lo h1, cat_lo (by omega), cat_lo h1]
    unfold f2B
    by_cases h2 : j < padN m
    · rw [putF_lo h2, cat_lo h2]
      unfold f1B padC
      rw [wd_cellsI h2]
      by_cases h3 : j < m
      · rw [putF_in (by omega) (by omega), ext_lo h3, Nat.sub_zero]
      · rw [putF_hi (by omega), ext_hi (by omega)]
    · rw [cat_hi (by omega)]
      unfold padC
      rw [wd_cellsI (by omega)]
      by_cases h3 : j < padN m + n
      · rw [putF_in (by omega) h3, ext_lo (by omega)]
      · rw [putF_hi (by omega), ext_hi (by omega)]
        unfold f1B
        rw [putF_hi (by omega)]
  · by_cases h2 : j < padN m + padN n + 8
    · rw [putF_lo h2, putF_in (by omega) h2, cat_lo h2, cat_hi (by omega), eb _ _ hm]
    · rw [putF_in (by omega) (by omega), cat_hi (by omega), eb _ _ hn]

theorem tag52 (W : World) : (tagSum 52).SoundC Tryd.prog (memL tblCha W) := sumC_sound Tryd.func52 (by kernel_rfl) (by kernel_rfl) fun args os v os' ns hs hp => by
  simp only [tagSum] at hs hp ⊢
  split at hs
  · rename_i K N f1 s1 n c f2 s2 m d X Y
    split at hs
    · rename_i hk
      cases hs
      simp only [Bool.and_eq_true] at hk
      have h1 : rngB K = true := hp (rngB K, true) (List.Mem.head _)
      have h2 : rngB N = true := hp (rngB N, true) (List.Mem.tail _ (List.Mem.head _))
      have h3 : (dataB X s1 f1 n c && Nat.ble n 1048576) = true := hp (_, true) (List.Mem.tail _ (List.Mem.tail _ (List.Mem.head _)))
      have h4 : (dataB Y s2 f2 m d && Nat.ble m 1048576) = true := hp (_, true) (List.Mem.tail _ (List.Mem.tail _ (List.Mem.tail _ (List.Mem.head _))))
      obtain ⟨x1, x2⟩ := Bool.and_eq_true_iff.1 h3
      obtain ⟨y1, y2⟩ := Bool.and_eq_true_iff.1 h4
      have x2 := Nat.le_of_ble_eq_true x2
      have y2 := Nat.le_of_ble_eq_true y2
      obtain ⟨xl, xs, xc, _, _⟩ := dataB_iff.1 x1
      obtain ⟨yl, ys, yc, _, _⟩ := dataB_iff.1 y1
      have pn : n ≤ padN n ∧ padN n < n + 16 := by unfold padN; omega
      have pm : m ≤ padN m ∧ padN m < m + 16 := by unfold padN; omega
      have eK := isB_eq hk.1
      have eN := isB_eq hk.2
      have ec : cpB n m = n + m + 48 := by unfold cpB; rw [Ab.wrap_i64 (n := (n : Int) + m) (by omega) (by omega), Ab.wrap_i64 (by omega) (by omega)]; omega
      have ep : padN (l2B n m) = padN m + padN n := by unfold l2B padN; omega
      have e0 : padN (0 + m) = padN m := by rw [Nat.zero_add]
      have el : l2B n m = padN m + n := by unfold l2B; rw [e0]
      have um : IntKind.u64.wrap (m : Int) = m := by rw [wrap_u64]; omega
      have un : IntKind.u64.wrap (n : Int) = n := by rw [wrap_u64]; omega
      have X1 : x1B n m Y f2 = cellsI .u8 (cpB n m) (f1B m Y f2) := by
        unfold x1B
        rw [zcells_cells, drop_take y1, show 0 + 0 * 1 = 0 from rfl, wr_put (by omega)]
        rfl
      have X2 : x2B n m X f1 Y f2 = cellsI .u8 (cpB n m) (f2B n m X f1 Y f2) := by
        unfold x2B
        rw [X1, drop_take x1, e0, show 0 + padN m * 1 = padN m by omega, wr_put (by omega)]
        rfl
      have X3 : x3B n m X f1 Y f2 = cellsI .u8 (cpB n m) (f3B n m X f1 Y f2) := by
        unfold x3B
        rw [X2, ep, um, un, layC_put (by omega), layC_put (by omega)]
        rfl
      have t1 : tailZ (x1B n m Y f2) (0 + m) (cpB n m) = true := by
        rw [X1]
        simp only [tailZ, List.all_eq_true, List.mem_range, Bool.or_eq_true, decide_eq_true_eq]
        intro i hi
        rw [wd_cellsI hi]
        by_cases h : i < 0 + m
        · exact .inl (Nat.blt_eq.mpr h)
        · exact .inr (putF_hi (by omega))
      have t2 : tailZ (x2B n m X f1 Y f2) (l2B n m) (cpB n m) = true := by
        rw [X2]
        simp only [tailZ, List.all_eq_true, List.mem_range, Bool.or_eq_true, decide_eq_true_eq]
        intro i hi
        rw [wd_cellsI hi]
        by_cases h : i < l2B n m
        · exact .inl (Nat.blt_eq.mpr h)
        · refine .inr ?_
          unfold f2B f1B
          rw [putF_hi (by omega), putF_hi (by omega)]
      have b1 : isB (cpB n m) (x1B n m Y f2) = true := by rw [X1]; exact isB_cells
      have b2 : isB (cpB n m) (x2B n m X f1 Y f2) = true := by rw [X2]; exact isB_cells
      have l1 : (x1B n m Y f2).length = cpB n m := by rw [X1, cellsI_length]
      have l2 : (x2B n m X f1 Y f2).length = cpB n m := by rw [X2, cellsI_length]
      have hd : dataB (x3B n m X f1 Y f2) (cpB n m) 0 (padN (l2B n m) + 8 + 8) (cpB n m) = true := by
        rw [X3, ep]
        refine dataB_iff.2 ⟨cellsI_length _ _ _, by omega, by omega, by omega, fun i hi => ?_⟩
        rw [Nat.zero_add, wd_cellsI (by omega)]
        refine ⟨?_, ?_⟩
        · have hi' : i < cpB n m := by omega
          simp [atC, cellsI, hi', isI]
        · rw [f3B_dF x2 y2 i (by unfold lenT; omega)]
          exact hasB_iff.2 (dF_has x1 y1 i (by omega))
      have ap : ∀ (Z V : List Value) (sz l a cp s2 f2 d : Nat), Z.length = sz → V.length = s2 → l + a ≤ cp → cp ≤ sz → f2 + a ≤ s2 → apB2 Z V sz l a cp s2 f2 d = true := fun Z V sz l a cp s2 f2 d h1 h2 h3 h4 h5 => by
        simp only [apB2, Bool.and_eq_true, decide_eq_true_eq]
        exact ⟨h3, h1, by omega, h2, by omega, Nat.le_refl a⟩
      have e9 : ∀ sp cp, sp = cp → eqB9 sp cp f1 s1 n c f2 s2 m d = true := fun sp cp h => by simp [eqB9, h]
      have hkey : rngB (keyB0 (wd K) (wd N)) = true := blk0_has _ _
      have := acalls_of_evFU (ovR_ok _ _) (consC (cha13 W) (consC (lay64 _) (consC (polyS _) nilC))) mix Tryd.func52 (hookG_ok _) (r52 (memL tblCha W) (wd K) (wd N) f1 s1 n c f2 s2 m d X Y) (by
        refine held_cons (by rw [← eK]; exact h1) (held_cons (by rw [← eN]; exact h2) (held_cons ?_ (held_cons ?_ (held_cons (e9 _ _ (by omega)) (held_cons (by rw [b1, t1]; rfl) (held_cons ?_ (held_cons ?_ (held_cons (e9 _ _ rfl) (held_cons (by rw [b2, t2]; rfl) (held_cons ?_ (held_cons ?_ (held_cons ?_ (held_cons hkey (held_one hd))))))))))))))
        · simp only [mkB, Bool.and_eq_true, decide_eq_true_eq]
          rw [Ab.wrap_i64 (n := (n : Int) + m) (by omega) (by omega), Ab.wrap_i64 (by omega) (by omega)]
          omega
        · exact ap _ _ _ _ _ _ _ _ _ (by rw [zcells_cells, cellsI_length]; omega) yl (by omega) (by omega) (by omega)
        · rw [decide_eq_true_eq]; omega
        · exact ap _ _ _ _ _ _ _ _ _ l1 xl (by omega) (by omega) (by omega)
        · rw [decide_eq_true_eq]; omega
        · rw [decide_eq_true_eq]; exact ⟨l2, by omega, Nat.le_refl _⟩
        · rw [decide_eq_true_eq]; exact ⟨by rw [layC_length]; exact l2, by omega, Nat.le_refl _⟩)
      have e : tagF (wd (keyB0 (wd K) (wd N))) (x3B n m X f1 Y f2) 0 (padN (l2B n m) + 8 + 8) = tagV (wd K) (wd N) X f1 n Y f2 m := by
        rw [ep]
        show tagF (wd (keyB0 (wd K) (wd N))) (x3B n m X f1 Y f2) 0 (lenT n m) = tagF (wd (keyB0 (wd K) (wd N))) (cellsI .u8 (lenT n m) (dF X f1 n Y f2 m)) 0 (lenT n m)
        refine tagF_congr fun j hj => ?_
        rw [Nat.zero_add, X3, wd_cellsI (by unfold lenT at hj; omega), wd_cellsI hj]
        exact f3B_dF x2 y2 j hj
      rw [e, ← eK, ← eN] at this
      exact ⟨this, fun _ => rfl⟩
    · cases hs
  · cases hs

end Go.Proofs.YtgnbmjhljlbkhaaDoor
