/- The law FnExactXSeal returns true of every key, nonce, text and extra, which read behind the call as before.
   Conditions: the variable chaWords is as the program's text lays it; the card ties it to that text. -/
import Derived.Test.YtgnbmjhljlbkhaaDoorSealLaw
import Derived.Test.YtgnbmjhljlbkhaaDoorXSeal
import Derived.Test.YtgnbmjhljlbkhaaDoorTie
import Derived.Test.YtgnbmjhljlbkhaaDoorCards
open Go.Ab Go.Num
set_option linter.unusedVariables false
set_option linter.unusedSimpArgs false
namespace Go.Proofs.YtgnbmjhljlbkhaaDoor

theorem k24s : flatK Tryd.prog 44 = some (List.replicate 24 (.int .u8)) := by kernel_rfl
noncomputable def I28 (M : Mem) : Sum := inl Tryd.prog M (fns []) 1000 28 Tryd.f28
theorem I28_s (M : Mem) : (I28 M).Sound Tryd.prog M := inl_sound fns_nil mix Tryd.func28 (by kernel_rfl) (by kernel_rfl)

noncomputable def L7 (M : Mem) : List Sum := [I11 M, I28 M, toSum M 20, xsealSum 27, xsealSum 29, eqsSum22, markSum23, heldSum24]
noncomputable def L7n (M : Mem) : List Sum := [I11 M, I28 M, toSum M 20, noXSealSum 27, noXSealSum 29, eqsSum22, markSum23, heldSum24]
theorem L7_sound (W : World) : ∀ s ∈ L7 (memL tblCha W), s.SoundC Tryd.prog (memL tblCha W) := consC (I11_s _).c (consC (I28_s _).c (consC (toS_S _) (consC (xseal27 _) (consC (xseal29 W) (consC (eqsSum22_sound _) (consC (markSum23_sound _) (consC (heldSum24_sound _) nilC)))))))
theorem L7n_sound (W : World) : ∀ s ∈ L7n (memL tblCha W), s.SoundC Tryd.prog (memL tblCha W) := consC (I11_s _).c (consC (I28_s _).c (consC (toS_S _) (consC (noXSeal27 _) (consC (noXSeal29 W) (consC (eqsSum22_sound _) (consC (markSum23_sound _) (consC (heldSum24_sound _) nilC)))))))

def boxX (k nn : Nat → Int) (n : Nat) (X : List Value) (m : Nat) (Y : List Value) : List Value := cellsI .u8 (n + 16) (boxF (xK (cellsI .u8 32 k) (cellsI .u8 24 nn)) (xN (cellsI .u8 24 nn)) X 0 n Y 0 m)
def sealX (k nn : Nat → Int) (n : Nat) (X : List Value) (m : Nat) (Y : List Value) : Pins := xP k nn ++ (dP n X ++ dP m Y)
def pins7 (rt re : Pins) (k nn x y : Nat → Int) (n m : Nat) : Pins :=
  lenP n ++ lenP m ++ rt ++ re ++ sealX k nn n (cellsI .u8 n x) m (cellsI .u8 m y) ++ rt ++ re ++ sealX k nn n (cellsI .u8 n x) m (cellsI .u8 m y) ++
  eqP (n + 16) (boxX k nn n (cellsI .u8 n x) m (cellsI .u8 m y)) (boxX k nn n (cellsI .u8 n x) m (cellsI .u8 m y)) ++
  rt ++ eqP n (cellsI .u8 n x) (cellsI .u8 n x) ++ re ++ eqP m (cellsI .u8 m y) (cellsI .u8 m y) ++ markP n m (cellsI .u8 n x) (cellsI .u8 m y) ++
  eqP (n + 16) (boxX k nn n (cellsI .u8 n x) m (cellsI .u8 m y)) (boxX k nn n (cellsI .u8 n x) m (cellsI .u8 m y)) ++ heldP (n + 16) (boxX k nn n (cellsI .u8 n x) m (cellsI .u8 m y)) ++
  rt ++ re ++ sealX k nn n (cellsI .u8 n x) m (cellsI .u8 m y) ++ eqP (n + 16) (boxX k nn n (cellsI .u8 n x) m (cellsI .u8 m y)) (boxX k nn n (cellsI .u8 n x) m (cellsI .u8 m y))
def noX (k nn : Nat → Int) (n m : Nat) : Pins := xP k nn ++ [(Nat.blt 65536 n || Nat.blt 65536 m, true)]
def pins7n (rt re : Pins) (k nn x y : Nat → Int) (n m : Nat) : Pins :=
  lenP n ++ lenP m ++ rt ++ re ++ noX k nn n m ++ rt ++ re ++ noX k nn n m ++ [(!true, false)] ++
  rt ++ eqP n (cellsI .u8 n x) (cellsI .u8 n x) ++ re ++ eqP m (cellsI .u8 m y) (cellsI .u8 m y) ++ markP n m (cellsI .u8 n x) (cellsI .u8 m y) ++
  [(!true, false), (decide ((1 : Int) < 0), false), ((1 : Int) != 1, false)] ++ rt ++ re ++ noX k nn n m ++ [(!true, false)]
set_option maxRecDepth 100000 in
theorem r7ss (M : Mem) (k nn : Nat → Int) (b1 o1 n c : Nat) (b2 o2 m d : Nat) : evFC Tryd.prog M (L7 M) sym5 1000 Tryd.f7 [.agg ⟨cellsI .u8 32 k⟩, .agg ⟨cellsI .u8 24 nn⟩, .slice (some ⟨b1, o1, none⟩) n c, .slice (some ⟨b2, o2, none⟩) m d] [] orc5
   = some ((.bool true, [], []), pins7 [(roAll M b1 o1 n, true)] [(roAll M b2 o2 m, true)] k nn (roN M b1 o1) (roN M b2 o2) n m) := parts_eq (by kernel_rfl) (by kernel_rfl) (by kernel_rfl) (by kernel_rfl) (by kernel_rfl)
set_option maxRecDepth 100000 in
theorem r7nss (M : Mem) (k nn : Nat → Int) (b1 o1 n c : Nat) (b2 o2 m d : Nat) : evFC Tryd.prog M (L7n M) sym5 1000 Tryd.f7 [.agg ⟨cellsI .u8 32 k⟩, .agg ⟨cellsI .u8 24 nn⟩, .slice (some ⟨b1, o1, none⟩) n c, .slice (some ⟨b2, o2, none⟩) m d] [] orc5
   = some ((.bool true, [], []), pins7n [(roAll M b1 o1 n, true)] [(roAll M b2 o2 m, true)] k nn (roN M b1 o1) (roN M b2 o2) n m) := parts_eq (by kernel_rfl) (by kernel_rfl) (by kernel_rfl) (by kernel_rfl) (by kernel_rfl)
set_option maxRecDepth 100000 in
theorem r7sz (M : Mem) (k nn : Nat → Int) (b1 o1 n c : Nat) : evFC Tryd.prog M (L7 M) sym5 1000 Tryd.f7 [.agg ⟨cellsI .u8 32 k⟩, .agg ⟨cellsI .u8 24 nn⟩, .slice (some ⟨b1, o1, none⟩) n c, .slice none 0 0] [] orc5
   = some ((.bool true, [], []), pins7 [(roAll M b1 o1 n, true)] [] k nn (roN M b1 o1) (fun _ => 0) n 0) := parts_eq (by kernel_rfl) (by kernel_rfl) (by kernel_rfl) (by kernel_rfl) (by kernel_rfl)
set_option maxRecDepth 100000 in
theorem r7nsz (M : Mem) (k nn : Nat → Int) (b1 o1 n c : Nat) : evFC Tryd.prog M (L7n M) sym5 1000 Tryd.f7 [.agg ⟨cellsI .u8 32 k⟩, .agg ⟨cellsI .u8 24 nn⟩, .slice (some ⟨b1, o1, none⟩) n c, .slice none 0 0] [] orc5
   = some ((.bool true, [], []), pins7n [(roAll M b1 o1 n, true)] [] k nn (roN M b1 o1) (fun _ => 0) n 0) := parts_eq (by kernel_rfl) (by kernel_rfl) (by kernel_rfl) (by kernel_rfl) (by kernel_rfl)
set_option maxRecDepth 100000 in
theorem r7zs (M : Mem) (k nn : Nat → Int) (b2 o2 m d : Nat) : evFC Tryd.prog M (L7 M) sym5 1000 Tryd.f7 [.agg ⟨cellsI .u8 32 k⟩, .agg ⟨cellsI .u8 24 nn⟩, .slice none 0 0, .slice (some ⟨b2, o2, none⟩) m d] [] orc5
   = some ((.bool true, [], []), pins7 [] [(roAll M b2 o2 m, true)] k nn (fun _ => 0) (roN M b2 o2) 0 m) := parts_eq (by kernel_rfl) (by kernel_rfl) (by kernel_rfl) (by kernel_rfl) (by kernel_rfl)
set_option maxRecDepth 100000 in
theorem r7nzs (M : Mem) (k nn : Nat → Int) (b2 o2 m d : Nat) : evFC Tryd.prog M (L7n M) sym5 1000 Tryd.f7 [.agg ⟨cellsI .u8 32 k⟩, .agg ⟨cellsI .u8 24 nn⟩, .slice none 0 0, .slice (some ⟨b2, o2, none⟩) m d] [] orc5
   = some ((.bool true, [], []), pins7n [] [(roAll M b2 o2 m, true)] k nn (fun _ => 0) (roN M b2 o2) 0 m) := parts_eq (by kernel_rfl) (by kernel_rfl) (by kernel_rfl) (by kernel_rfl) (by kernel_rfl)
set_option maxRecDepth 100000 in
theorem r7zz (M : Mem) (k nn : Nat → Int) : evFC Tryd.prog M (L7 M) sym5 1000 Tryd.f7 [.agg ⟨cellsI .u8 32 k⟩, .agg ⟨cellsI .u8 24 nn⟩, .slice none 0 0, .slice none 0 0] [] orc5
   = some ((.bool true, [], []), pins7 [] [] k nn (fun _ => 0) (fun _ => 0) 0 0) := parts_eq (by kernel_rfl) (by kernel_rfl) (by kernel_rfl) (by kernel_rfl) (by kernel_rfl)
set_option maxRecDepth 100000 in
theorem r7nzz (M : Mem) (k nn : Nat → Int) : evFC Tryd.prog M (L7n M) sym5 1000 Tryd.f7 [.agg ⟨cellsI .u8 32 k⟩, .agg ⟨cellsI .u8 24 nn⟩, .slice none 0 0, .slice none 0 0] [] orc5
   = some ((.bool true, [], []), pins7n [] [] k nn (fun _ => 0) (fun _ => 0) 0 0) := parts_eq (by kernel_rfl) (by kernel_rfl) (by kernel_rfl) (by kernel_rfl) (by kernel_rfl)
set_option maxRecDepth 100000 in
theorem r7ls (M : Mem) (k nn : Nat → Int) (b1 o1 n c : Nat) (b2 o2 m d : Nat) : evFC Tryd.prog M (L7 M) sym5 1000 Tryd.f7 [.agg ⟨cellsI .u8 32 k⟩, .agg ⟨cellsI .u8 24 nn⟩, .slice (some ⟨b1, o1, none⟩) n c, .slice (some ⟨b2, o2, none⟩) m d] [] [true]
   = some ((.bool true, [], []), [(decide ((n : Int) > 1048576), true)]) := parts_eq (by kernel_rfl) (by kernel_rfl) (by kernel_rfl) (by kernel_rfl) (by kernel_rfl)
set_option maxRecDepth 100000 in
theorem r7ms (M : Mem) (k nn : Nat → Int) (b1 o1 n c : Nat) (b2 o2 m d : Nat) : evFC Tryd.prog M (L7 M) sym5 1000 Tryd.f7 [.agg ⟨cellsI .u8 32 k⟩, .agg ⟨cellsI .u8 24 nn⟩, .slice (some ⟨b1, o1, none⟩) n c, .slice (some ⟨b2, o2, none⟩) m d] [] [false, true]
   = some ((.bool true, [], []), [(decide (((n : Nat) : Int) > 1048576), false), (decide ((m : Int) > 1048576), true)]) := parts_eq (by kernel_rfl) (by kernel_rfl) (by kernel_rfl) (by kernel_rfl) (by kernel_rfl)
set_option maxRecDepth 100000 in
theorem r7lz (M : Mem) (k nn : Nat → Int) (b1 o1 n c : Nat) : evFC Tryd.prog M (L7 M) sym5 1000 Tryd.f7 [.agg ⟨cellsI .u8 32 k⟩, .agg ⟨cellsI .u8 24 nn⟩, .slice (some ⟨b1, o1, none⟩) n c, .slice none 0 0] [] [true]
   = some ((.bool true, [], []), [(decide ((n : Int) > 1048576), true)]) := parts_eq (by kernel_rfl) (by kernel_rfl) (by kernel_rfl) (by kernel_rfl) (by kernel_rfl)
set_option maxRecDepth 100000 in
theorem r7mz (M : Mem) (k nn : Nat → Int) (b2 o2 m d : Nat) : evFC Tryd.prog M (L7 M) sym5 1000 Tryd.f7 [.agg ⟨cellsI .u8 32 k⟩, .agg ⟨cellsI .u8 24 nn⟩, .slice none 0 0, .slice (some ⟨b2, o2, none⟩) m d] [] [false, true]
   = some ((.bool true, [], []), [(decide (((0 : Nat) : Int) > 1048576), false), (decide ((m : Int) > 1048576), true)]) := parts_eq (by kernel_rfl) (by kernel_rfl) (by kernel_rfl) (by kernel_rfl) (by kernel_rfl)

/-! ### What is asked for holds -/
theorem pins7_held {rt re : Pins} {k nn x y : Nat → Int} {n m : Nat} (hrt : Held rt) (hre : Held re) (hk : rngB (cellsI .u8 32 k) = true) (hnn : rngB (cellsI .u8 24 nn) = true) (hx : ∀ i, i < n → IntKind.u8.has (x i)) (hy : ∀ i, i < m → IntKind.u8.has (y i)) (hn : n ≤ 65536) (hm : m ≤ 65536) :
    Held (pins7 rt re k nn x y n m) := by
  have hs : Held (sealX k nn n (cellsI .u8 n x) m (cellsI .u8 m y)) := app_held (held_cons hk (held_one hnn)) (app_held (dP_held hn hx) (dP_held hm hy))
  have hb : Held (eqP (n + 16) (boxX k nn n (cellsI .u8 n x) m (cellsI .u8 m y)) (boxX k nn n (cellsI .u8 n x) m (cellsI .u8 m y))) := eqP_held (by omega)
  have hh : Held (heldP (n + 16) (boxX k nn n (cellsI .u8 n x) m (cellsI .u8 m y))) := heldP_held (by omega)
  have h1 := eqP_held (n := n) (x := x) (by omega)
  have h2 := eqP_held (n := m) (x := y) (by omega)
  have h3 := markP_held (n := n) (m := m) (x := x) (y := y) (by omega) (by omega)
  have l1 := lenP_held (n := n) (by omega)
  have l2 := lenP_held (n := m) (by omega)
  unfold pins7
  exact app_held (app_held (app_held (app_held (app_held (app_held (app_held (app_held (app_held (app_held (app_held (app_held (app_held (app_held (app_held (app_held (app_held (app_held (app_held l1 l2) hrt) hre) hs) hrt) hre) hs) hb) hrt) h1) hre) h2) h3) hb) hh) hrt) hre) hs) hb

theorem pins7n_held {rt re : Pins} {k nn x y : Nat → Int} {n m : Nat} (hrt : Held rt) (hre : Held re) (hk : rngB (cellsI .u8 32 k) = true) (hnn : rngB (cellsI .u8 24 nn) = true) (hn : n ≤ 1048576) (hm : m ≤ 1048576) (h : 65536 < n ∨ 65536 < m) : Held (pins7n rt re k nn x y n m) := by
  have hs : Held (noX k nn n m) := app_held (held_cons hk (held_one hnn)) (held_one (by
    rw [Bool.or_eq_true]
    rcases h with h | h
    · exact .inl (Nat.blt_eq.mpr h)
    · exact .inr (Nat.blt_eq.mpr h)))
  have h1 := eqP_held (n := n) (x := x) (by omega)
  have h2 := eqP_held (n := m) (x := y) (by omega)
  have h3 := markP_held (n := n) (m := m) (x := x) (y := y) (by omega) (by omega)
  have l1 := lenP_held (n := n) (by omega)
  have l2 := lenP_held (n := m) (by omega)
  have t : Held [(!true, false)] := held_one rfl
  have t3 : Held [(!true, false), (decide ((1 : Int) < 0), false), ((1 : Int) != 1, false)] := held_cons rfl (held_cons (by decide) (held_one (by decide)))
  unfold pins7n
  exact app_held (app_held (app_held (app_held (app_held (app_held (app_held (app_held (app_held (app_held (app_held (app_held (app_held (app_held (app_held (app_held (app_held (app_held l1 l2) hrt) hre) hs) hrt) hre) hs) t) hrt) h1) hre) h2) h3) t3) hrt) hre) hs) t

theorem run7 (W : World) (base : Nat) (hL : laidMetH Tryd.prog laidCha W) (v0 : Value) (h0 : Value.okWide Tryd.prog W .any base 22 v0) {H : Type} {enc : TypeId × Value → H} {d : DataW H} {p : List MemPlace} (_ : DataW.Trod enc Tryd.prog W 0 (fun _ => true) true 22 v0 d p)
    (v1 : Value) (h1 : Value.okWide Tryd.prog W .any base 44 v1) {d1 : DataW H} {p1 : List MemPlace} (_ : DataW.Trod enc Tryd.prog W 0 (fun _ => true) true 44 v1 d1 p1)
    (v2 : Value) (h2 : Value.okWide Tryd.prog W .any base 36 v2) {d2 : DataW H} {p2 : List MemPlace} (t2 : DataW.Trod enc Tryd.prog W 0 (fun _ => true) true 36 v2 d2 p2)
    (v3 : Value) (h3 : Value.okWide Tryd.prog W .any base 36 v3) {d3 : DataW H} {p3 : List MemPlace} (t3 : DataW.Trod enc Tryd.prog W 0 (fun _ => true) true 36 v3 d3 p3) :
    groundL [v0, v1, v2, v3] = true ∧ ∃ M ns, RoOk M W ∧ ACalls Tryd.prog M 7 [v0, v1, v2, v3] [] (.bool true) [] ns := by
  obtain ⟨cs, rfl, hc⟩ := flat_ok k32s h0
  obtain ⟨cs2, rfl, hc2⟩ := flat_ok k24s h1
  have g0 := hc.ground
  have g1 := hc2.ground
  obtain ⟨k, rfl, hk⟩ := cvs_cells (by exact ⟨by decide, by decide⟩) hc
  obtain ⟨nn, rfl, hnn⟩ := cvs_cells (by exact ⟨by decide, by decide⟩) hc2
  have rk := rngB_cellsI (n := 32) hk
  have rn := rngB_cellsI (n := 24) hnn
  have ok : RoOk (memL tblCha W) W := ro_memL (ro_cha hL)
  have no0 : ∀ i, i < 0 → IntKind.u8.has ((fun _ => 0 : Nat → Int) i) := fun i hi => by omega
  rcases arg36 hL h2 t2 with rfl | ⟨b1, o1, n, c, rfl, x1⟩ <;> rcases arg36 hL h3 t3 with rfl | ⟨b2, o2, m, e, rfl, x2⟩
  · refine ⟨by simp only [groundL, ground, groundA, g0, g1, Bool.and_true], memL tblCha W, [], ok, ?_⟩
    exact acalls_of_evFC (L7_sound W) mix Tryd.func7 (r7zz _ k nn) (pins7_held held_nil held_nil rk rn no0 no0 (by omega) (by omega))
  · refine ⟨by simp only [groundL, ground, groundA, g0, g1, Bool.and_true]; rfl, memL tblCha W, [], ok, ?_⟩
    by_cases hm : m ≤ 1048576
    · have re := held_one (roS_all x2 (by omega))
      by_cases hm2 : m ≤ 65536
      · exact acalls_of_evFC (L7_sound W) mix Tryd.func7 (r7zs _ k nn b2 o2 m e) (pins7_held held_nil re rk rn no0 (fun i hi => (x2 i hi).2) (by omega) hm2)
      · exact acalls_of_evFC (L7n_sound W) mix Tryd.func7 (r7nzs _ k nn b2 o2 m e) (pins7n_held held_nil re rk rn (by omega) hm (by omega))
    · exact acalls_of_evFC (L7_sound W) mix Tryd.func7 (r7mz _ k nn b2 o2 m e) (held_cons (by decide) (held_one (by rw [decide_eq_true_eq]; omega)))
  · refine ⟨by simp only [groundL, ground, groundA, g0, g1, Bool.and_true]; rfl, memL tblCha W, [], ok, ?_⟩
    by_cases hn : n ≤ 1048576
    · have rt := held_one (roS_all x1 (by omega))
      by_cases hn2 : n ≤ 65536
      · exact acalls_of_evFC (L7_sound W) mix Tryd.func7 (r7sz _ k nn b1 o1 n c) (pins7_held rt held_nil rk rn (fun i hi => (x1 i hi).2) no0 hn2 (by omega))
      · exact acalls_of_evFC (L7n_sound W) mix Tryd.func7 (r7nsz _ k nn b1 o1 n c) (pins7n_held rt held_nil rk rn hn (by omega) (by omega))
    · exact acalls_of_evFC (L7_sound W) mix Tryd.func7 (r7lz _ k nn b1 o1 n c) (held_one (by rw [decide_eq_true_eq]; omega))
  · refine ⟨by simp only [groundL, ground, groundA, g0, g1, Bool.and_true]; rfl, memL tblCha W, [], ok, ?_⟩
    by_cases hn : n ≤ 1048576
    · by_cases hm : m ≤ 1048576
      · have rt := held_one (roS_all x1 (by omega))
        have re := held_one (roS_all x2 (by omega))
        by_cases h : n ≤ 65536 ∧ m ≤ 65536
        · exact acalls_of_evFC (L7_sound W) mix Tryd.func7 (r7ss _ k nn b1 o1 n c b2 o2 m e) (pins7_held rt re rk rn (fun i hi => (x1 i hi).2) (fun i hi => (x2 i hi).2) h.1 h.2)
        · exact acalls_of_evFC (L7n_sound W) mix Tryd.func7 (r7nss _ k nn b1 o1 n c b2 o2 m e) (pins7n_held rt re rk rn hn hm (by omega))
      · exact acalls_of_evFC (L7_sound W) mix Tryd.func7 (r7ms _ k nn b1 o1 n c b2 o2 m e) (held_cons (by rw [decide_eq_false_iff_not]; omega) (held_one (by rw [decide_eq_true_eq]; omega)))
    · exact acalls_of_evFC (L7_sound W) mix Tryd.func7 (r7ls _ k nn b1 o1 n c b2 o2 m e) (held_one (by rw [decide_eq_true_eq]; omega))

set_option maxRecDepth 100000 in
theorem FnExactXSeal_lifted (os : Os) (started : os.Started) (H : Type) (enc : TypeId × Value → H) :
    ReturnsInHanded {} Tryd.checked os 7 .any (fun w args => (Rows.fnExactXSealSpec.pre enc Tryd.prog Tryd.f7 [] false w args ∧ laidMetH Tryd.prog laidCha w) ∧ sizedMet enc Tryd.prog Tryd.f7 (OpenSpec.ofChange Rows.fnExactXSealSpec) false w args)
      (Rows.fnExactXSealSpec.post enc Tryd.prog Tryd.f7 false true false false) :=
  liftedL own (by kernel_rfl) Tryd.func7 (tb := 4) (by kernel_rfl) Tryd.underlying4 (by kernel_rfl) (by kernel_rfl) (laid := laidCha) (fun H ds gs h h2 => by
      obtain ⟨_, _, _, _, rfl⟩ := len4 (l := ds) (h.trans (by kernel_rfl)); obtain ⟨_, rfl⟩ := len1 (l := gs) (h2.trans (by kernel_rfl)); rfl)
    (fun W base H enc args ds ps hL h hv => by
      rw [show Tryd.f7.params = _ from Tryd.params7] at h hv
      obtain ⟨v0, v1, v2, v3, d0, d1, d2, d3, p0, p1, p2, p3, rfl, rfl, rfl, h0, h1, h2, h3⟩ := Go.RowKit.trodAll_four h
      exact run7 W base hL v0 (hv 0 _ v0 rfl rfl) h0 v1 (hv 1 _ v1 rfl rfl) h1 v2 (hv 2 _ v2 rfl rfl) h2 v3 (hv 3 _ v3 rfl rfl) h3) os started enc
    (ChangeSpec.witness_shaped (enc := enc) (C := Tryd.checked) (os := os) (X := fun w _ => laidMetH Tryd.prog laidCha w) false (World.doorLaid Tryd.prog 400 os) #[(.agg (Array.replicate 32 (.int .u8 0))), (.agg (Array.replicate 24 (.int .u8 0))), (.slice none 0 0), (.slice none 0 0)] 64 rfl (World.shaped_of_RefB (by kernel_rfl) (by kernel_rfl)) (by kernel_rfl) (by kernel_rfl) (by kernel_rfl) (door_met os _))

set_option maxRecDepth 100000 in
theorem FnExactXSeal_row : Rows.FnExactXSealSaid :=
  OpenClaim.holds_of_wide 7 Tryd.f7 rfl rfl rfl rfl rfl rfl rfl ⟨rfl, rfl, rfl, rfl, rfl⟩ rfl rfl rfl rfl rfl (by kernel_rfl) Tryd.func7 (by kernel_rfl)
    (of_decide_eq_true (by kernel_rfl)) (by unfold Func.isWrapper; first | (rw [if_pos (by decide +kernel)]; kernel_rfl) | (rw [if_neg (by decide +kernel)]; exact ⟨rfl, rfl⟩))
    (fun os started H enc _ => FnExactXSeal_lifted os started H enc)

set_option maxRecDepth 100000 in
/-- The statement: the row with its variables tied to the program's text. -/
theorem FnExactXSeal_holds : Rows.FnExactXSealCardSaid :=
  Claim7.holds_tied_plain_at .later [] [.widerDeep] true (true, "4e403907b894438770c9b4d8f2302bf91f824e52f63195d1585c3c77d878912d") false
    FnExactXSeal_row (fun _ h => by cases h) (by kernel_rfl) (fun _ h => by cases h) fnExactXSeal_row_tie rfl ⟨rfl, rfl⟩ (by kernel_rfl) rfl
    (fun f fn hf hfn => by
      obtain rfl : f = 7 := Option.some.inj ((show Tryd.prog.funcNamed "loop.example/s02974/laws.FnExactXSeal" = some 7 by kernel_rfl).symm.trans hf) |>.symm
      obtain rfl : fn = Tryd.f7 := (Option.some.inj (Tryd.func7.symm.trans hfn)).symm
      exact ⟨by kernel_rfl, fun j t ht => by
        rw [Tryd.params7] at ht
        have hm : t ∈ [22, 44, 36, 36] := by simpa using Array.mem_of_getElem? ht
        have hall : ([22, 44, 36, 36].all fun u => !Tryd.prog.wantsStandIn u) = true := by kernel_rfl
        exact (show Tryd.prog.wantsStandIn t = false by simpa using List.all_eq_true.1 hall t hm)⟩)
    (by kernel_rfl)


end Go.Proofs.YtgnbmjhljlbkhaaDoor
