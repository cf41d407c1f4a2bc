/- The law FnExactSeal returns true of every key, nonce, text and extra, which read behind the call as before.
   Conditions: the variable chaWords is as the program's text lays it; the card ties it to that text. -/
import Derived.Test.YtgnbmjhljlbkhaaDoorArgs
import Derived.Test.YtgnbmjhljlbkhaaDoorSlices
import Derived.Test.YtgnbmjhljlbkhaaDoorToS
import Derived.Test.YtgnbmjhljlbkhaaDoorHCha
import Derived.Test.YtgnbmjhljlbkhaaDoorLaid
import Derived.Test.YtgnbmjhljlbkhaaDoorTie
import Derived.Test.YtgnbmjhljlbkhaaDoorCards
open Go.Ab Go.Num
set_option linter.unusedVariables false
set_option linter.unusedSimpArgs false
namespace Go.Proofs.YtgnbmjhljlbkhaaDoor

theorem k32s : flatK Tryd.prog 22 = some (List.replicate 32 (.int .u8)) := by kernel_rfl
theorem k12s : flatK Tryd.prog 24 = some (List.replicate 12 (.int .u8)) := by kernel_rfl

noncomputable def L5 (M : Mem) : List Sum := [I11 M, I12 M, toSum M 20, sealSum 19, sealSum 21, eqsSum22, markSum23, heldSum24]
noncomputable def L5n (M : Mem) : List Sum := [I11 M, I12 M, toSum M 20, noSealSum 19, noSealSum 21, eqsSum22, markSum23, heldSum24]
theorem L5_sound (W : World) : ∀ s ∈ L5 (memL tblCha W), s.SoundC Tryd.prog (memL tblCha W) := consC (I11_s _).c (consC (I12_s _).c (consC (toS_S _) (consC (seal19 _) (consC (seal21 W) (consC (eqsSum22_sound _) (consC (markSum23_sound _) (consC (heldSum24_sound _) nilC)))))))
theorem L5n_sound (M : Mem) : ∀ s ∈ L5n M, s.SoundC Tryd.prog M := consC (I11_s _).c (consC (I12_s _).c (consC (toS_S _) (consC (noSeal19 _) (consC (noSeal21 _) (consC (eqsSum22_sound _) (consC (markSum23_sound _) (consC (heldSum24_sound _) nilC)))))))

def ob (X : List Value) : AObj := ⟨X, true, 1, true⟩
def eqP (n : Nat) (A B : List Value) : Pins := [(sliceB (ob A) n 0 n, true), (sliceB (ob B) n 0 n, true), (!(Nat.beq n n && eqB (cut (ob A) 0 n) (cut (ob B) 0 n)), false)]
def keyP (k nn : Nat → Int) : Pins := [(rngB (cellsI .u8 32 k), true), (rngB (cellsI .u8 12 nn), true)]
def dP (n : Nat) (X : List Value) : Pins := [(dataB X n 0 n n && Nat.ble n 65536, true)]
def lenP (n : Nat) : Pins := [(decide ((n : Int) > 1048576), false)]
def boxC (k nn : Nat → Int) (n : Nat) (X : List Value) (m : Nat) (Y : List Value) : List Value := cellsI .u8 (n + 16) (boxF (cellsI .u8 32 k) (cellsI .u8 12 nn) X 0 n Y 0 m)
def sealP (k nn : Nat → Int) (n : Nat) (X : List Value) (m : Nat) (Y : List Value) : Pins := keyP k nn ++ (dP n X ++ dP m Y)
def mkP (n : Nat) (X : List Value) : Pins := [(sliceB (ob X) n 0 n, true)]
def markP (n m : Nat) (X Y : List Value) : Pins := mkP n X ++ (mkP m Y ++ [(decide (cnt64 (cnt64 1 n) m < 0), false)])
def heldP (n : Nat) (X : List Value) : Pins := mkP n X ++ (mkP n (markC X 0 1 n) ++ [(heldC (ob (markC X 0 1 n)) 0 n 1, true), (decide (cnt64 1 n < 0), false), (cnt64 1 n != cnt64 1 n, false)])

def pins5 (rt re : Pins) (k nn x y : Nat → Int) (n m : Nat) : Pins :=
  lenP n ++ lenP m ++ rt ++ re ++ sealP k nn n (cellsI .u8 n x) m (cellsI .u8 m y) ++ rt ++ re ++ sealP k nn n (cellsI .u8 n x) m (cellsI .u8 m y) ++
  eqP (n + 16) (boxC k nn n (cellsI .u8 n x) m (cellsI .u8 m y)) (boxC k nn n (cellsI .u8 n x) m (cellsI .u8 m y)) ++
  rt ++ eqP n (cellsI .u8 n x) (cellsI .u8 n x) ++ re ++ eqP m (cellsI .u8 m y) (cellsI .u8 m y) ++ markP n m (cellsI .u8 n x) (cellsI .u8 m y) ++
  eqP (n + 16) (boxC k nn n (cellsI .u8 n x) m (cellsI .u8 m y)) (boxC k nn n (cellsI .u8 n x) m (cellsI .u8 m y)) ++ heldP (n + 16) (boxC k nn n (cellsI .u8 n x) m (cellsI .u8 m y)) ++
  rt ++ re ++ sealP k nn n (cellsI .u8 n x) m (cellsI .u8 m y) ++ eqP (n + 16) (boxC k nn n (cellsI .u8 n x) m (cellsI .u8 m y)) (boxC k nn n (cellsI .u8 n x) m (cellsI .u8 m y))
def noP (n m : Nat) : Pins := [(Nat.blt 65536 n || Nat.blt 65536 m, true)]
def pins5n (rt re : Pins) (x y : Nat → Int) (n m : Nat) : Pins :=
  lenP n ++ lenP m ++ rt ++ re ++ noP n m ++ rt ++ re ++ noP n m ++ [(!true, false)] ++
  rt ++ eqP n (cellsI .u8 n x) (cellsI .u8 n x) ++ re ++ eqP m (cellsI .u8 m y) (cellsI .u8 m y) ++ markP n m (cellsI .u8 n x) (cellsI .u8 m y) ++
  [(!true, false), (decide ((1 : Int) < 0), false), ((1 : Int) != 1, false)] ++ rt ++ re ++ noP n m ++ [(!true, false)]
def sym5 : List Nat := [19, 22, 46, 51, 56, 64, 69, 78, 81, 94]
def orc5 : List Bool := List.replicate 10 false

set_option maxRecDepth 100000 in
theorem r5ss (M : Mem) (k nn : Nat → Int) (b1 o1 n c : Nat) (b2 o2 m d : Nat) : evFC Tryd.prog M (L5 M) sym5 1000 Tryd.f5 [.agg ⟨cellsI .u8 32 k⟩, .agg ⟨cellsI .u8 12 nn⟩, .slice (some ⟨b1, o1, none⟩) n c, .slice (some ⟨b2, o2, none⟩) m d] [] orc5
   = some ((.bool true, [], []), pins5 [(roAll M b1 o1 n, true)] [(roAll M b2 o2 m, true)] k nn (roN M b1 o1) (roN M b2 o2) n m) := by kernel_rfl
set_option maxRecDepth 100000 in
theorem r5nss (M : Mem) (k nn : Nat → Int) (b1 o1 n c : Nat) (b2 o2 m d : Nat) : evFC Tryd.prog M (L5n M) sym5 1000 Tryd.f5 [.agg ⟨cellsI .u8 32 k⟩, .agg ⟨cellsI .u8 12 nn⟩, .slice (some ⟨b1, o1, none⟩) n c, .slice (some ⟨b2, o2, none⟩) m d] [] orc5
   = some ((.bool true, [], []), pins5n [(roAll M b1 o1 n, true)] [(roAll M b2 o2 m, true)] (roN M b1 o1) (roN M b2 o2) n m) := by kernel_rfl
set_option maxRecDepth 100000 in
theorem r5sz (M : Mem) (k nn : Nat → Int) (b1 o1 n c : Nat) : evFC Tryd.prog M (L5 M) sym5 1000 Tryd.f5 [.agg ⟨cellsI .u8 32 k⟩, .agg ⟨cellsI .u8 12 nn⟩, .slice (some ⟨b1, o1, none⟩) n c, .slice none 0 0] [] orc5
   = some ((.bool true, [], []), pins5 [(roAll M b1 o1 n, true)] [] k nn (roN M b1 o1) (fun _ => 0) n 0) := by kernel_rfl
set_option maxRecDepth 100000 in
theorem r5nsz (M : Mem) (k nn : Nat → Int) (b1 o1 n c : Nat) : evFC Tryd.prog M (L5n M) sym5 1000 Tryd.f5 [.agg ⟨cellsI .u8 32 k⟩, .agg ⟨cellsI .u8 12 nn⟩, .slice (some ⟨b1, o1, none⟩) n c, .slice none 0 0] [] orc5
   = some ((.bool true, [], []), pins5n [(roAll M b1 o1 n, true)] [] (roN M b1 o1) (fun _ => 0) n 0) := by kernel_rfl
set_option maxRecDepth 100000 in
theorem r5zs (M : Mem) (k nn : Nat → Int) (b2 o2 m d : Nat) : evFC Tryd.prog M (L5 M) sym5 1000 Tryd.f5 [.agg ⟨cellsI .u8 32 k⟩, .agg ⟨cellsI .u8 12 nn⟩, .slice none 0 0, .slice (some ⟨b2, o2, none⟩) m d] [] orc5
   = some ((.bool true, [], []), pins5 [] [(roAll M b2 o2 m, true)] k nn (fun _ => 0) (roN M b2 o2) 0 m) := by kernel_rfl
set_option maxRecDepth 100000 in
theorem r5nzs (M : Mem) (k nn : Nat → Int) (b2 o2 m d : Nat) : evFC Tryd.prog M (L5n M) sym5 1000 Tryd.f5 [.agg ⟨cellsI .u8 32 k⟩, .agg ⟨cellsI .u8 12 nn⟩, .slice none 0 0, .slice (some ⟨b2, o2, none⟩) m d] [] orc5
   = some ((.bool true, [], []), pins5n [] [(roAll M b2 o2 m, true)] (fun _ => 0) (roN M b2 o2) 0 m) := by kernel_rfl
set_option maxRecDepth 100000 in
theorem r5zz (M : Mem) (k nn : Nat → Int) : evFC Tryd.prog M (L5 M) sym5 1000 Tryd.f5 [.agg ⟨cellsI .u8 32 k⟩, .agg ⟨cellsI .u8 12 nn⟩, .slice none 0 0, .slice none 0 0] [] orc5
   = some ((.bool true, [], []), pins5 [] [] k nn (fun _ => 0) (fun _ => 0) 0 0) := by kernel_rfl
set_option maxRecDepth 100000 in
theorem r5nzz (M : Mem) (k nn : Nat → Int) : evFC Tryd.prog M (L5n M) sym5 1000 Tryd.f5 [.agg ⟨cellsI .u8 32 k⟩, .agg ⟨cellsI .u8 12 nn⟩, .slice none 0 0, .slice none 0 0] [] orc5
   = some ((.bool true, [], []), pins5n [] [] (fun _ => 0) (fun _ => 0) 0 0) := by kernel_rfl
set_option maxRecDepth 100000 in
theorem r5ls (M : Mem) (k nn : Nat → Int) (b1 o1 n c : Nat) (b2 o2 m d : Nat) : evFC Tryd.prog M (L5 M) sym5 1000 Tryd.f5 [.agg ⟨cellsI .u8 32 k⟩, .agg ⟨cellsI .u8 12 nn⟩, .slice (some ⟨b1, o1, none⟩) n c, .slice (some ⟨b2, o2, none⟩) m d] [] [true]
   = some ((.bool true, [], []), [(decide ((n : Int) > 1048576), true)]) := by kernel_rfl
set_option maxRecDepth 100000 in
theorem r5ms (M : Mem) (k nn : Nat → Int) (b1 o1 n c : Nat) (b2 o2 m d : Nat) : evFC Tryd.prog M (L5 M) sym5 1000 Tryd.f5 [.agg ⟨cellsI .u8 32 k⟩, .agg ⟨cellsI .u8 12 nn⟩, .slice (some ⟨b1, o1, none⟩) n c, .slice (some ⟨b2, o2, none⟩) m d] [] [false, true]
   = some ((.bool true, [], []), [(decide (((n : Nat) : Int) > 1048576), false), (decide ((m : Int) > 1048576), true)]) := by kernel_rfl
set_option maxRecDepth 100000 in
theorem r5lz (M : Mem) (k nn : Nat → Int) (b1 o1 n c : Nat) : evFC Tryd.prog M (L5 M) sym5 1000 Tryd.f5 [.agg ⟨cellsI .u8 32 k⟩, .agg ⟨cellsI .u8 12 nn⟩, .slice (some ⟨b1, o1, none⟩) n c, .slice none 0 0] [] [true]
   = some ((.bool true, [], []), [(decide ((n : Int) > 1048576), true)]) := by kernel_rfl
set_option maxRecDepth 100000 in
theorem r5mz (M : Mem) (k nn : Nat → Int) (b2 o2 m d : Nat) : evFC Tryd.prog M (L5 M) sym5 1000 Tryd.f5 [.agg ⟨cellsI .u8 32 k⟩, .agg ⟨cellsI .u8 12 nn⟩, .slice none 0 0, .slice (some ⟨b2, o2, none⟩) m d] [] [false, true]
   = some ((.bool true, [], []), [(decide (((0 : Nat) : Int) > 1048576), false), (decide ((m : Int) > 1048576), true)]) := by kernel_rfl

/-! ### What is asked for holds -/
theorem eqP_held {n : Nat} {x : Nat → Int} (hn : n ≤ 2097152) : Held (eqP n (cellsI .u8 n x) (cellsI .u8 n x)) := by
  obtain ⟨a, b⟩ := eqP_bytes (n := n) (x := x) (by omega)
  exact held_cons a (held_cons a (held_one b))
theorem mkP_held {n : Nat} {x : Nat → Int} (hn : n ≤ 2097152) : Held (mkP n (cellsI .u8 n x)) := held_one (eqP_bytes (n := n) (x := x) (by omega)).1
theorem markP_held {n m : Nat} {x y : Nat → Int} (hn : n ≤ 2097152) (hm : m ≤ 2097152) : Held (markP n m (cellsI .u8 n x) (cellsI .u8 m y)) := by
  refine app_held (mkP_held hn) (app_held (mkP_held hm) (held_one ?_))
  rw [cnt64_eq (k := 1) (by omega) (by omega), cnt64_eq (by omega) (by omega), decide_eq_false_iff_not]
  omega
theorem heldP_held {n : Nat} {x : Nat → Int} (hn : n ≤ 2097152) : Held (heldP n (cellsI .u8 n x)) := by
  have hs : sliceB ⟨cellsI .u8 n x, true, 1, true⟩ n 0 n = true := (eqP_bytes (n := n) (x := x) (by omega)).1
  refine app_held (mkP_held hn) (app_held (held_one (sliceB_mark (k := 1) hs)) (held_cons (held_mark (o := ⟨cellsI .u8 n x, true, 1, true⟩) (by rw [cellsI_length]; omega) (by omega)) (held_cons ?_ (held_one (by simp)))))
  rw [cnt64_eq (k := 1) (by omega) (by omega), decide_eq_false_iff_not]
  omega
theorem dP_held {n : Nat} {x : Nat → Int} (hn : n ≤ 65536) (hx : ∀ i, i < n → IntKind.u8.has (x i)) : Held (dP n (cellsI .u8 n x)) := held_one (by rw [data_cells (by omega) hx]; exact Nat.ble_eq_true_of_le hn)
theorem lenP_held {n : Nat} (hn : n ≤ 1048576) : Held (lenP n) := held_one (by rw [decide_eq_false_iff_not]; omega)

theorem pins5_held {rt re : Pins} {k nn x y : Nat → Int} {n m : Nat} (hrt : Held rt) (hre : Held re) (hk : rngB (cellsI .u8 32 k) = true) (hnn : rngB (cellsI .u8 12 nn) = true) (hx : ∀ i, i < n → IntKind.u8.has (x i)) (hy : ∀ i, i < m → IntKind.u8.has (y i)) (hn : n ≤ 65536) (hm : m ≤ 65536) :
    Held (pins5 rt re k nn x y n m) := by
  have hs : Held (sealP k nn n (cellsI .u8 n x) m (cellsI .u8 m y)) := app_held (held_cons hk (held_one hnn)) (app_held (dP_held hn hx) (dP_held hm hy))
  have hb : Held (eqP (n + 16) (boxC k nn n (cellsI .u8 n x) m (cellsI .u8 m y)) (boxC k nn n (cellsI .u8 n x) m (cellsI .u8 m y))) := eqP_held (by omega)
  have hh : Held (heldP (n + 16) (boxC k nn n (cellsI .u8 n x) m (cellsI .u8 m y))) := heldP_held (by omega)
  have h1 := eqP_held (n := n) (x := x) (by omega)
  have h2 := eqP_held (n := m) (x := y) (by omega)
  have h3 := markP_held (n := n) (m := m) (x := x) (y := y) (by omega) (by omega)
  have l1 := lenP_held (n := n) (by omega)
  have l2 := lenP_held (n := m) (by omega)
  unfold pins5
  exact app_held (app_held (app_held (app_held (app_held (app_held (app_held (app_held (app_held (app_held (app_held (app_held (app_held (app_held (app_held (app_held (app_held (app_held (app_held l1 l2) hrt) hre) hs) hrt) hre) hs) hb) hrt) h1) hre) h2) h3) hb) hh) hrt) hre) hs) hb

theorem pins5n_held {rt re : Pins} {x y : Nat → Int} {n m : Nat} (hrt : Held rt) (hre : Held re) (hn : n ≤ 1048576) (hm : m ≤ 1048576) (h : 65536 < n ∨ 65536 < m) : Held (pins5n rt re x y n m) := by
  have hs : Held (noP n m) := held_one (by
    rw [Bool.or_eq_true]
    rcases h with h | h
    · exact .inl (Nat.blt_eq.mpr h)
    · exact .inr (Nat.blt_eq.mpr h))
  have h1 := eqP_held (n := n) (x := x) (by omega)
  have h2 := eqP_held (n := m) (x := y) (by omega)
  have h3 := markP_held (n := n) (m := m) (x := x) (y := y) (by omega) (by omega)
  have l1 := lenP_held (n := n) (by omega)
  have l2 := lenP_held (n := m) (by omega)
  have t : Held [(!true, false)] := held_one rfl
  have t3 : Held [(!true, false), (decide ((1 : Int) < 0), false), ((1 : Int) != 1, false)] := held_cons rfl (held_cons (by decide) (held_one (by decide)))
  unfold pins5n
  exact app_held (app_held (app_held (app_held (app_held (app_held (app_held (app_held (app_held (app_held (app_held (app_held (app_held (app_held (app_held (app_held (app_held (app_held l1 l2) hrt) hre) hs) hrt) hre) hs) t) hrt) h1) hre) h2) h3) t3) hrt) hre) hs) t

theorem run5 (W : World) (base : Nat) (hL : laidMetH Tryd.prog laidCha W) (v0 : Value) (h0 : Value.okWide Tryd.prog W .any base 22 v0) {H : Type} {enc : TypeId × Value → H} {d : DataW H} {p : List MemPlace} (_ : DataW.Trod enc Tryd.prog W 0 (fun _ => true) true 22 v0 d p)
    (v1 : Value) (h1 : Value.okWide Tryd.prog W .any base 24 v1) {d1 : DataW H} {p1 : List MemPlace} (_ : DataW.Trod enc Tryd.prog W 0 (fun _ => true) true 24 v1 d1 p1)
    (v2 : Value) (h2 : Value.okWide Tryd.prog W .any base 36 v2) {d2 : DataW H} {p2 : List MemPlace} (t2 : DataW.Trod enc Tryd.prog W 0 (fun _ => true) true 36 v2 d2 p2)
    (v3 : Value) (h3 : Value.okWide Tryd.prog W .any base 36 v3) {d3 : DataW H} {p3 : List MemPlace} (t3 : DataW.Trod enc Tryd.prog W 0 (fun _ => true) true 36 v3 d3 p3) :
    groundL [v0, v1, v2, v3] = true ∧ ∃ M ns, RoOk M W ∧ ACalls Tryd.prog M 5 [v0, v1, v2, v3] [] (.bool true) [] ns := by
  obtain ⟨cs, rfl, hc⟩ := flat_ok k32s h0
  obtain ⟨cs2, rfl, hc2⟩ := flat_ok k12s h1
  have g0 := hc.ground
  have g1 := hc2.ground
  obtain ⟨k, rfl, hk⟩ := cvs_cells (by exact ⟨by decide, by decide⟩) hc
  obtain ⟨nn, rfl, hnn⟩ := cvs_cells (by exact ⟨by decide, by decide⟩) hc2
  have rk := rngB_cellsI (n := 32) hk
  have rn := rngB_cellsI (n := 12) hnn
  have ok : RoOk (memL tblCha W) W := ro_memL (ro_cha hL)
  have no0 : ∀ i, i < 0 → IntKind.u8.has ((fun _ => 0 : Nat → Int) i) := fun i hi => by omega
  rcases arg36 hL h2 t2 with rfl | ⟨b1, o1, n, c, rfl, x1⟩ <;> rcases arg36 hL h3 t3 with rfl | ⟨b2, o2, m, e, rfl, x2⟩
  · refine ⟨by simp only [groundL, ground, groundA, g0, g1, Bool.and_true], memL tblCha W, [], ok, ?_⟩
    exact acalls_of_evFC (L5_sound W) mix Tryd.func5 (r5zz _ k nn) (pins5_held held_nil held_nil rk rn no0 no0 (by omega) (by omega))
  · refine ⟨by simp only [groundL, ground, groundA, g0, g1, Bool.and_true]; rfl, memL tblCha W, [], ok, ?_⟩
    by_cases hm : m ≤ 1048576
    · have re := held_one (roS_all x2 (by omega))
      by_cases hm2 : m ≤ 65536
      · exact acalls_of_evFC (L5_sound W) mix Tryd.func5 (r5zs _ k nn b2 o2 m e) (pins5_held held_nil re rk rn no0 (fun i hi => (x2 i hi).2) (by omega) hm2)
      · exact acalls_of_evFC (L5n_sound _) mix Tryd.func5 (r5nzs _ k nn b2 o2 m e) (pins5n_held held_nil re (by omega) hm (by omega))
    · exact acalls_of_evFC (L5_sound W) mix Tryd.func5 (r5mz _ k nn b2 o2 m e) (held_cons (by decide) (held_one (by rw [decide_eq_true_eq]; omega)))
  · refine ⟨by simp only [groundL, ground, groundA, g0, g1, Bool.and_true]; rfl, memL tblCha W, [], ok, ?_⟩
    by_cases hn : n ≤ 1048576
    · have rt := held_one (roS_all x1 (by omega))
      by_cases hn2 : n ≤ 65536
      · exact acalls_of_evFC (L5_sound W) mix Tryd.func5 (r5sz _ k nn b1 o1 n c) (pins5_held rt held_nil rk rn (fun i hi => (x1 i hi).2) no0 hn2 (by omega))
      · exact acalls_of_evFC (L5n_sound _) mix Tryd.func5 (r5nsz _ k nn b1 o1 n c) (pins5n_held rt held_nil hn (by omega) (by omega))
    · exact acalls_of_evFC (L5_sound W) mix Tryd.func5 (r5lz _ k nn b1 o1 n c) (held_one (by rw [decide_eq_true_eq]; omega))
  · refine ⟨by simp only [groundL, ground, groundA, g0, g1, Bool.and_true]; rfl, memL tblCha W, [], ok, ?_⟩
    by_cases hn : n ≤ 1048576
    · by_cases hm : m ≤ 1048576
      · have rt := held_one (roS_all x1 (by omega))
        have re := held_one (roS_all x2 (by omega))
        by_cases h : n ≤ 65536 ∧ m ≤ 65536
        · exact acalls_of_evFC (L5_sound W) mix Tryd.func5 (r5ss _ k nn b1 o1 n c b2 o2 m e) (pins5_held rt re rk rn (fun i hi => (x1 i hi).2) (fun i hi => (x2 i hi).2) h.1 h.2)
        · exact acalls_of_evFC (L5n_sound _) mix Tryd.func5 (r5nss _ k nn b1 o1 n c b2 o2 m e) (pins5n_held rt re hn hm (by omega))
      · exact acalls_of_evFC (L5_sound W) mix Tryd.func5 (r5ms _ k nn b1 o1 n c b2 o2 m e) (held_cons (by rw [decide_eq_false_iff_not]; omega) (held_one (by rw [decide_eq_true_eq]; omega)))
    · exact acalls_of_evFC (L5_sound W) mix Tryd.func5 (r5ls _ k nn b1 o1 n c b2 o2 m e) (held_one (by rw [decide_eq_true_eq]; omega))

set_option maxRecDepth 100000 in
theorem FnExactSeal_lifted (os : Os) (started : os.Started) (H : Type) (enc : TypeId × Value → H) :
    ReturnsInHanded {} Tryd.checked os 5 .any (fun w args => (Rows.fnExactSealSpec.pre enc Tryd.prog Tryd.f5 [] false w args ∧ laidMetH Tryd.prog laidCha w) ∧ sizedMet enc Tryd.prog Tryd.f5 (OpenSpec.ofChange Rows.fnExactSealSpec) false w args)
      (Rows.fnExactSealSpec.post enc Tryd.prog Tryd.f5 false true false false) :=
  liftedL own (by kernel_rfl) Tryd.func5 (tb := 4) (by kernel_rfl) Tryd.underlying4 (by kernel_rfl) (by kernel_rfl) (laid := laidCha) (fun H ds gs h h2 => by
      obtain ⟨_, _, _, _, rfl⟩ := len4 (l := ds) (h.trans (by kernel_rfl)); obtain ⟨_, rfl⟩ := len1 (l := gs) (h2.trans (by kernel_rfl)); rfl)
    (fun W base H enc args ds ps hL h hv => by
      rw [show Tryd.f5.params = _ from Tryd.params5] at h hv
      obtain ⟨v0, v1, v2, v3, d0, d1, d2, d3, p0, p1, p2, p3, rfl, rfl, rfl, h0, h1, h2, h3⟩ := Go.RowKit.trodAll_four h
      exact run5 W base hL v0 (hv 0 _ v0 rfl rfl) h0 v1 (hv 1 _ v1 rfl rfl) h1 v2 (hv 2 _ v2 rfl rfl) h2 v3 (hv 3 _ v3 rfl rfl) h3) os started enc
    (ChangeSpec.witness_shaped (enc := enc) (C := Tryd.checked) (os := os) (X := fun w _ => laidMetH Tryd.prog laidCha w) false (World.doorLaid Tryd.prog 400 os) #[(.agg (Array.replicate 32 (.int .u8 0))), (.agg (Array.replicate 12 (.int .u8 0))), (.slice none 0 0), (.slice none 0 0)] 64 rfl (World.shaped_of_RefB (by kernel_rfl) (by kernel_rfl)) (by kernel_rfl) (by kernel_rfl) (by kernel_rfl) (door_met os _))

set_option maxRecDepth 100000 in
theorem FnExactSeal_row : Rows.FnExactSealSaid :=
  OpenClaim.holds_of_wide 5 Tryd.f5 rfl rfl rfl rfl rfl rfl rfl ⟨rfl, rfl, rfl, rfl, rfl⟩ rfl rfl rfl rfl rfl (by kernel_rfl) Tryd.func5 (by kernel_rfl)
    (of_decide_eq_true (by kernel_rfl)) (by unfold Func.isWrapper; first | (rw [if_pos (by decide +kernel)]; kernel_rfl) | (rw [if_neg (by decide +kernel)]; exact ⟨rfl, rfl⟩))
    (fun os started H enc _ => FnExactSeal_lifted os started H enc)

set_option maxRecDepth 100000 in
/-- The statement: the row with its variables tied to the program's text. -/
theorem FnExactSeal_holds : Rows.FnExactSealCardSaid :=
  Claim7.holds_tied_plain_at .later [] [.widerDeep] true (true, "4e403907b894438770c9b4d8f2302bf91f824e52f63195d1585c3c77d878912d") false
    FnExactSeal_row (fun _ h => by cases h) (by kernel_rfl) (fun _ h => by cases h) fnExactSeal_row_tie rfl ⟨rfl, rfl⟩ (by kernel_rfl) rfl
    (fun f fn hf hfn => by
      obtain rfl : f = 5 := Option.some.inj ((show Tryd.prog.funcNamed "loop.example/s02974/laws.FnExactSeal" = some 5 by kernel_rfl).symm.trans hf) |>.symm
      obtain rfl : fn = Tryd.f5 := (Option.some.inj (Tryd.func5.symm.trans hfn)).symm
      exact ⟨by kernel_rfl, fun j t ht => by
        rw [Tryd.params5] at ht
        have hm : t ∈ [22, 24, 36, 36] := by simpa using Array.mem_of_getElem? ht
        have hall : ([22, 24, 36, 36].all fun u => !Tryd.prog.wantsStandIn u) = true := by kernel_rfl
        exact (show Tryd.prog.wantsStandIn t = false by simpa using List.all_eq_true.1 hall t hm)⟩)
    (by kernel_rfl)


end Go.Proofs.YtgnbmjhljlbkhaaDoor
