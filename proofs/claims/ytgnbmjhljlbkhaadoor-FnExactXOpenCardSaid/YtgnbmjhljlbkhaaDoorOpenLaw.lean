/- The law FnExactOpen returns true of every key, nonce, box and extra, which read behind the call as before.
   Conditions: the variable chaWords is as the program's text lays it; the card ties it to that text. -/
import Derived.Test.YtgnbmjhljlbkhaaDoorSealLaw
import Derived.Test.YtgnbmjhljlbkhaaDoorOpen
open Go.Ab Go.Num
set_option linter.unusedVariables false
set_option linter.unusedSimpArgs false
namespace Go.Proofs.YtgnbmjhljlbkhaaDoor

noncomputable def L6 (M : Mem) : List Sum := [I11 M, I12 M, toSum M 20, openSum 25 0, openSum 26 16, eqsSum22, markSum23, heldSum24]
noncomputable def L6n (M : Mem) : List Sum := [I11 M, I12 M, toSum M 20, noOpenSum 25, noOpenSum 26, eqsSum22, markSum23, heldSum24]
theorem L6_sound (W : World) : ∀ s ∈ L6 (memL tblCha W), s.SoundC Tryd.prog (memL tblCha W) := consC (I11_s _).c (consC (I12_s _).c (consC (toS_S _) (consC (open25 _) (consC (open26 W) (consC (eqsSum22_sound _) (consC (markSum23_sound _) (consC (heldSum24_sound _) nilC)))))))
theorem L6n_sound (W : World) : ∀ s ∈ L6n (memL tblCha W), s.SoundC Tryd.prog (memL tblCha W) := consC (I11_s _).c (consC (I12_s _).c (consC (toS_S _) (consC (noOpen25 _) (consC (noOpen26 W) (consC (eqsSum22_sound _) (consC (markSum23_sound _) (consC (heldSum24_sound _) nilC)))))))

/-- Two slices that begin where their objects do. -/
def eqO (n a b : Nat) (A B : List Value) : Pins := [(sliceB (ob A) a 0 n, true), (sliceB (ob B) b 0 n, true), (!(Nat.beq n n && eqB (cut (ob A) 0 n) (cut (ob B) 0 n)), false)]
def heldO (n a : Nat) (X : List Value) : Pins := [(sliceB (ob X) a 0 n, true), (sliceB (ob (markC X 0 1 n)) a 0 n, true), (heldC (ob (markC X 0 1 n)) 0 n 1, true), (decide (cnt64 1 n < 0), false), (cnt64 1 n != cnt64 1 n, false)]
def txC (k nn : Nat → Int) (n : Nat) (X : List Value) (e : Nat) : List Value := textV (cellsI .u8 32 k) (cellsI .u8 12 nn) X 0 n e
def tagP (k nn : Nat → Int) (n : Nat) (X : List Value) (m : Nat) (Y : List Value) : Bool := tagB (cellsI .u8 32 k) (cellsI .u8 12 nn) X 0 n Y 0 m
def openP (k nn : Nat → Int) (n : Nat) (X : List Value) (m : Nat) (Y : List Value) : Pins := keyP k nn ++ [(dataB X n 0 n n && (Nat.ble 16 n && Nat.ble n 65552), true), (dataB Y m 0 m m && Nat.ble m 65536, true), (tagP k nn n X m Y, true)]
def noOpP (k nn : Nat → Int) (n : Nat) (X : List Value) (m : Nat) (Y : List Value) : Pins := keyP k nn ++ [(dataB X n 0 n n, true), (dataB Y m 0 m m, true), (lenBad n m || !tagP k nn n X m Y, true)]
def pins6 (rt re : Pins) (k nn x y : Nat → Int) (n m : Nat) : Pins :=
  lenP n ++ lenP m ++ rt ++ re ++ openP k nn n (cellsI .u8 n x) m (cellsI .u8 m y) ++ rt ++ re ++ openP k nn n (cellsI .u8 n x) m (cellsI .u8 m y) ++
  eqO (n - 16) (n - 16 + 16) (n - 16 + 0) (txC k nn n (cellsI .u8 n x) 16) (txC k nn n (cellsI .u8 n x) 0) ++
  rt ++ eqP n (cellsI .u8 n x) (cellsI .u8 n x) ++ re ++ eqP m (cellsI .u8 m y) (cellsI .u8 m y) ++ markP n m (cellsI .u8 n x) (cellsI .u8 m y) ++
  eqO (n - 16) (n - 16 + 16) (n - 16 + 0) (txC k nn n (cellsI .u8 n x) 16) (txC k nn n (cellsI .u8 n x) 0) ++ heldO (n - 16) (n - 16 + 16) (txC k nn n (cellsI .u8 n x) 16) ++
  rt ++ re ++ openP k nn n (cellsI .u8 n x) m (cellsI .u8 m y) ++ eqO (n - 16) (n - 16 + 16) (n - 16 + 0) (txC k nn n (cellsI .u8 n x) 16) (txC k nn n (cellsI .u8 n x) 0)
def pins6n (rt re : Pins) (k nn x y : Nat → Int) (n m : Nat) : Pins :=
  lenP n ++ lenP m ++ rt ++ re ++ noOpP k nn n (cellsI .u8 n x) m (cellsI .u8 m y) ++ rt ++ re ++ noOpP k nn n (cellsI .u8 n x) m (cellsI .u8 m y) ++ [(!true, false)] ++
  rt ++ eqP n (cellsI .u8 n x) (cellsI .u8 n x) ++ re ++ eqP m (cellsI .u8 m y) (cellsI .u8 m y) ++ markP n m (cellsI .u8 n x) (cellsI .u8 m y) ++
  [(!true, false), (decide ((1 : Int) < 0), false), ((1 : Int) != 1, false)] ++ rt ++ re ++ noOpP k nn n (cellsI .u8 n x) m (cellsI .u8 m y) ++ [(!true, false)]
def sym6 : List Nat := [22, 25, 55, 65, 70, 78, 83, 97, 100, 116]

set_option maxRecDepth 100000 in
theorem r6ss (M : Mem) (k nn : Nat → Int) (b1 o1 n c : Nat) (b2 o2 m d : Nat) : evFC Tryd.prog M (L6 M) sym6 1000 Tryd.f6 [.agg ⟨cellsI .u8 32 k⟩, .agg ⟨cellsI .u8 12 nn⟩, .slice (some ⟨b1, o1, none⟩) n c, .slice (some ⟨b2, o2, none⟩) m d] [] orc5
   = some ((.bool true, [], []), pins6 [(roAll M b1 o1 n, true)] [(roAll M b2 o2 m, true)] k nn (roN M b1 o1) (roN M b2 o2) n m) := by kernel_rfl
set_option maxRecDepth 100000 in
theorem r6nss (M : Mem) (k nn : Nat → Int) (b1 o1 n c : Nat) (b2 o2 m d : Nat) : evFC Tryd.prog M (L6n M) sym6 1000 Tryd.f6 [.agg ⟨cellsI .u8 32 k⟩, .agg ⟨cellsI .u8 12 nn⟩, .slice (some ⟨b1, o1, none⟩) n c, .slice (some ⟨b2, o2, none⟩) m d] [] orc5
   = some ((.bool true, [], []), pins6n [(roAll M b1 o1 n, true)] [(roAll M b2 o2 m, true)] k nn (roN M b1 o1) (roN M b2 o2) n m) := by kernel_rfl
set_option maxRecDepth 100000 in
theorem r6sz (M : Mem) (k nn : Nat → Int) (b1 o1 n c : Nat) : evFC Tryd.prog M (L6 M) sym6 1000 Tryd.f6 [.agg ⟨cellsI .u8 32 k⟩, .agg ⟨cellsI .u8 12 nn⟩, .slice (some ⟨b1, o1, none⟩) n c, .slice none 0 0] [] orc5
   = some ((.bool true, [], []), pins6 [(roAll M b1 o1 n, true)] [] k nn (roN M b1 o1) (fun _ => 0) n 0) := by kernel_rfl
set_option maxRecDepth 100000 in
theorem r6nsz (M : Mem) (k nn : Nat → Int) (b1 o1 n c : Nat) : evFC Tryd.prog M (L6n M) sym6 1000 Tryd.f6 [.agg ⟨cellsI .u8 32 k⟩, .agg ⟨cellsI .u8 12 nn⟩, .slice (some ⟨b1, o1, none⟩) n c, .slice none 0 0] [] orc5
   = some ((.bool true, [], []), pins6n [(roAll M b1 o1 n, true)] [] k nn (roN M b1 o1) (fun _ => 0) n 0) := by kernel_rfl
set_option maxRecDepth 100000 in
theorem r6nzs (M : Mem) (k nn : Nat → Int) (b2 o2 m d : Nat) : evFC Tryd.prog M (L6n M) sym6 1000 Tryd.f6 [.agg ⟨cellsI .u8 32 k⟩, .agg ⟨cellsI .u8 12 nn⟩, .slice none 0 0, .slice (some ⟨b2, o2, none⟩) m d] [] orc5
   = some ((.bool true, [], []), pins6n [] [(roAll M b2 o2 m, true)] k nn (fun _ => 0) (roN M b2 o2) 0 m) := by kernel_rfl
set_option maxRecDepth 100000 in
theorem r6nzz (M : Mem) (k nn : Nat → Int) : evFC Tryd.prog M (L6n M) sym6 1000 Tryd.f6 [.agg ⟨cellsI .u8 32 k⟩, .agg ⟨cellsI .u8 12 nn⟩, .slice none 0 0, .slice none 0 0] [] orc5
   = some ((.bool true, [], []), pins6n [] [] k nn (fun _ => 0) (fun _ => 0) 0 0) := by kernel_rfl
set_option maxRecDepth 100000 in
theorem r6ls (M : Mem) (k nn : Nat → Int) (b1 o1 n c : Nat) (b2 o2 m d : Nat) : evFC Tryd.prog M (L6 M) sym6 1000 Tryd.f6 [.agg ⟨cellsI .u8 32 k⟩, .agg ⟨cellsI .u8 12 nn⟩, .slice (some ⟨b1, o1, none⟩) n c, .slice (some ⟨b2, o2, none⟩) m d] [] [true]
   = some ((.bool true, [], []), [(decide ((n : Int) > 1048576), true)]) := by kernel_rfl
set_option maxRecDepth 100000 in
theorem r6ms (M : Mem) (k nn : Nat → Int) (b1 o1 n c : Nat) (b2 o2 m d : Nat) : evFC Tryd.prog M (L6 M) sym6 1000 Tryd.f6 [.agg ⟨cellsI .u8 32 k⟩, .agg ⟨cellsI .u8 12 nn⟩, .slice (some ⟨b1, o1, none⟩) n c, .slice (some ⟨b2, o2, none⟩) m d] [] [false, true]
   = some ((.bool true, [], []), [(decide (((n : Nat) : Int) > 1048576), false), (decide ((m : Int) > 1048576), true)]) := by kernel_rfl
set_option maxRecDepth 100000 in
theorem r6lz (M : Mem) (k nn : Nat → Int) (b1 o1 n c : Nat) : evFC Tryd.prog M (L6 M) sym6 1000 Tryd.f6 [.agg ⟨cellsI .u8 32 k⟩, .agg ⟨cellsI .u8 12 nn⟩, .slice (some ⟨b1, o1, none⟩) n c, .slice none 0 0] [] [true]
   = some ((.bool true, [], []), [(decide ((n : Int) > 1048576), true)]) := by kernel_rfl
set_option maxRecDepth 100000 in
theorem r6mz (M : Mem) (k nn : Nat → Int) (b2 o2 m d : Nat) : evFC Tryd.prog M (L6 M) sym6 1000 Tryd.f6 [.agg ⟨cellsI .u8 32 k⟩, .agg ⟨cellsI .u8 12 nn⟩, .slice none 0 0, .slice (some ⟨b2, o2, none⟩) m d] [] [false, true]
   = some ((.bool true, [], []), [(decide (((0 : Nat) : Int) > 1048576), false), (decide ((m : Int) > 1048576), true)]) := by kernel_rfl

/-! ### What is asked for holds -/
theorem txC_eq (k nn : Nat → Int) (n : Nat) (X : List Value) (e : Nat) : txC k nn n X e = cellsI .u8 (n - 16 + e) (ext (strF (cellsI .u8 32 k) (cellsI .u8 12 nn) X 0) (n - 16)) := rfl
theorem eqO_held {k nn : Nat → Int} {n : Nat} {X : List Value} (hn : n ≤ 2097152) : Held (eqO (n - 16) (n - 16 + 16) (n - 16 + 0) (txC k nn n X 16) (txC k nn n X 0)) := by
  unfold eqO ob
  rw [txC_eq, txC_eq]
  refine held_cons (sliceB_cells (by omega) (by omega)) (held_cons (sliceB_cells (by omega) (by omega)) (held_one ?_))
  rw [cutS_cells (by omega), cutS_cells (by omega), Num.eqB_cells, Nat.beq_refl]
  rfl
theorem heldO_held {k nn : Nat → Int} {n : Nat} {X : List Value} (hn : n ≤ 2097152) : Held (heldO (n - 16) (n - 16 + 16) (txC k nn n X 16)) := by
  unfold heldO ob
  rw [txC_eq]
  have hs : sliceB ⟨cellsI .u8 (n - 16 + 16) (ext (strF (cellsI .u8 32 k) (cellsI .u8 12 nn) X 0) (n - 16)), true, 1, true⟩ (n - 16 + 16) 0 (n - 16) = true := sliceB_cells (by omega) (by omega)
  refine held_cons hs (held_cons (sliceB_mark (k := 1) hs) (held_cons (held_mark (o := ⟨cellsI .u8 (n - 16 + 16) (ext (strF (cellsI .u8 32 k) (cellsI .u8 12 nn) X 0) (n - 16)), true, 1, true⟩) (by rw [cellsI_length]; omega) (by omega)) (held_cons ?_ (held_one (by simp)))))
  rw [cnt64_eq (k := 1) (by omega) (by omega), decide_eq_false_iff_not]
  omega

theorem pins6_held {rt re : Pins} {k nn x y : Nat → Int} {n m : Nat} (hrt : Held rt) (hre : Held re) (hk : rngB (cellsI .u8 32 k) = true) (hnn : rngB (cellsI .u8 12 nn) = true) (hx : ∀ i, i < n → IntKind.u8.has (x i)) (hy : ∀ i, i < m → IntKind.u8.has (y i))
    (h16 : 16 ≤ n) (hn : n ≤ 65552) (hm : m ≤ 65536) (ht : tagP k nn n (cellsI .u8 n x) m (cellsI .u8 m y) = true) : Held (pins6 rt re k nn x y n m) := by
  have hs : Held (openP k nn n (cellsI .u8 n x) m (cellsI .u8 m y)) := app_held (held_cons hk (held_one hnn)) (held_cons (by rw [data_cells (by omega) hx, Nat.ble_eq_true_of_le h16, Nat.ble_eq_true_of_le hn]; rfl) (held_cons (by rw [data_cells (by omega) hy]; exact Nat.ble_eq_true_of_le hm) (held_one ht)))
  have hb := eqO_held (k := k) (nn := nn) (n := n) (X := cellsI .u8 n x) (by omega)
  have hh := heldO_held (k := k) (nn := nn) (n := n) (X := cellsI .u8 n x) (by omega)
  have h1 := eqP_held (n := n) (x := x) (by omega)
  have h2 := eqP_held (n := m) (x := y) (by omega)
  have h3 := markP_held (n := n) (m := m) (x := x) (y := y) (by omega) (by omega)
  have l1 := lenP_held (n := n) (by omega)
  have l2 := lenP_held (n := m) (by omega)
  unfold pins6
  exact app_held (app_held (app_held (app_held (app_held (app_held (app_held (app_held (app_held (app_held (app_held (app_held (app_held (app_held (app_held (app_held (app_held (app_held (app_held l1 l2) hrt) hre) hs) hrt) hre) hs) hb) hrt) h1) hre) h2) h3) hb) hh) hrt) hre) hs) hb

theorem pins6n_held {rt re : Pins} {k nn x y : Nat → Int} {n m : Nat} (hrt : Held rt) (hre : Held re) (hk : rngB (cellsI .u8 32 k) = true) (hnn : rngB (cellsI .u8 12 nn) = true) (hx : ∀ i, i < n → IntKind.u8.has (x i)) (hy : ∀ i, i < m → IntKind.u8.has (y i))
    (hn : n ≤ 1048576) (hm : m ≤ 1048576) (ht : (lenBad n m || !tagP k nn n (cellsI .u8 n x) m (cellsI .u8 m y)) = true) : Held (pins6n rt re k nn x y n m) := by
  have hs : Held (noOpP k nn n (cellsI .u8 n x) m (cellsI .u8 m y)) := app_held (held_cons hk (held_one hnn)) (held_cons (data_cells (by omega) hx) (held_cons (data_cells (by omega) hy) (held_one ht)))
  have h1 := eqP_held (n := n) (x := x) (by omega)
  have h2 := eqP_held (n := m) (x := y) (by omega)
  have h3 := markP_held (n := n) (m := m) (x := x) (y := y) (by omega) (by omega)
  have l1 := lenP_held (n := n) (by omega)
  have l2 := lenP_held (n := m) (by omega)
  have t : Held [(!true, false)] := held_one rfl
  have t3 : Held [(!true, false), (decide ((1 : Int) < 0), false), ((1 : Int) != 1, false)] := held_cons rfl (held_cons (by decide) (held_one (by decide)))
  unfold pins6n
  exact app_held (app_held (app_held (app_held (app_held (app_held (app_held (app_held (app_held (app_held (app_held (app_held (app_held (app_held (app_held (app_held (app_held (app_held l1 l2) hrt) hre) hs) hrt) hre) hs) t) hrt) h1) hre) h2) h3) t3) hrt) hre) hs) t

theorem lenBad_short {n m : Nat} (h : n < 16) (b : Bool) : (lenBad n m || b) = true := by unfold lenBad; rw [Nat.blt_eq.mpr h]; rfl

theorem run6 (W : World) (base : Nat) (hL : laidMetH Tryd.prog laidCha W) (v0 : Value) (h0 : Value.okWide Tryd.prog W .any base 22 v0) {H : Type} {enc : TypeId × Value → H} {d : DataW H} {p : List MemPlace} (_ : DataW.Trod enc Tryd.prog W 0 (fun _ => true) true 22 v0 d p)
    (v1 : Value) (h1 : Value.okWide Tryd.prog W .any base 24 v1) {d1 : DataW H} {p1 : List MemPlace} (_ : DataW.Trod enc Tryd.prog W 0 (fun _ => true) true 24 v1 d1 p1)
    (v2 : Value) (h2 : Value.okWide Tryd.prog W .any base 36 v2) {d2 : DataW H} {p2 : List MemPlace} (t2 : DataW.Trod enc Tryd.prog W 0 (fun _ => true) true 36 v2 d2 p2)
    (v3 : Value) (h3 : Value.okWide Tryd.prog W .any base 36 v3) {d3 : DataW H} {p3 : List MemPlace} (t3 : DataW.Trod enc Tryd.prog W 0 (fun _ => true) true 36 v3 d3 p3) :
    groundL [v0, v1, v2, v3] = true ∧ ∃ M ns, RoOk M W ∧ ACalls Tryd.prog M 6 [v0, v1, v2, v3] [] (.bool true) [] ns := by
  obtain ⟨cs, rfl, hc⟩ := flat_ok k32s h0
  obtain ⟨cs2, rfl, hc2⟩ := flat_ok k12s h1
  have g0 := hc.ground
  have g1 := hc2.ground
  obtain ⟨k, rfl, hk⟩ := cvs_cells (by exact ⟨by decide, by decide⟩) hc
  obtain ⟨nn, rfl, hnn⟩ := cvs_cells (by exact ⟨by decide, by decide⟩) hc2
  have rk := rngB_cellsI (n := 32) hk
  have rn := rngB_cellsI (n := 12) hnn
  have ok : RoOk (memL tblCha W) W := ro_memL (ro_cha hL)
  have no0 : ∀ i, i < 0 → IntKind.u8.has ((fun _ => 0 : Nat → Int) i) := fun i hi => by omega
  rcases arg36 hL h2 t2 with rfl | ⟨b1, o1, n, c, rfl, x1⟩ <;> rcases arg36 hL h3 t3 with rfl | ⟨b2, o2, m, e, rfl, x2⟩
  · refine ⟨by simp only [groundL, ground, groundA, g0, g1, Bool.and_true], memL tblCha W, [], ok, ?_⟩
    exact acalls_of_evFC (L6n_sound W) mix Tryd.func6 (r6nzz _ k nn) (pins6n_held held_nil held_nil rk rn no0 no0 (by omega) (by omega) (lenBad_short (by omega) _))
  · refine ⟨by simp only [groundL, ground, groundA, g0, g1, Bool.and_true]; rfl, memL tblCha W, [], ok, ?_⟩
    by_cases hm : m ≤ 1048576
    · exact acalls_of_evFC (L6n_sound W) mix Tryd.func6 (r6nzs _ k nn b2 o2 m e) (pins6n_held held_nil (held_one (roS_all x2 (by omega))) rk rn no0 (fun i hi => (x2 i hi).2) (by omega) hm (lenBad_short (by omega) _))
    · exact acalls_of_evFC (L6_sound W) mix Tryd.func6 (r6mz _ k nn b2 o2 m e) (held_cons (by decide) (held_one (by rw [decide_eq_true_eq]; omega)))
  · refine ⟨by simp only [groundL, ground, groundA, g0, g1, Bool.and_true]; rfl, memL tblCha W, [], ok, ?_⟩
    by_cases hn : n ≤ 1048576
    · have rt := held_one (roS_all x1 (by omega))
      have bx := fun i hi => (x1 i hi).2
      cases hb : (lenBad n 0 || !tagP k nn n (cellsI .u8 n (roN (memL tblCha W) b1 o1)) 0 (cellsI .u8 0 fun _ => 0)) with
      | true => exact acalls_of_evFC (L6n_sound W) mix Tryd.func6 (r6nsz _ k nn b1 o1 n c) (pins6n_held rt held_nil rk rn bx no0 hn (by omega) hb)
      | false =>
        obtain ⟨hb1, hb2⟩ := Bool.or_eq_false_iff.1 hb
        obtain ⟨q1, q2, q3⟩ := (lenBad_cases (m := 0) (by omega : n ≤ 4611686018427387904)).2 hb1
        exact acalls_of_evFC (L6_sound W) mix Tryd.func6 (r6sz _ k nn b1 o1 n c) (pins6_held rt held_nil rk rn bx no0 q1 q2 q3 (by simpa using hb2))
    · exact acalls_of_evFC (L6_sound W) mix Tryd.func6 (r6lz _ k nn b1 o1 n c) (held_one (by rw [decide_eq_true_eq]; omega))
  · refine ⟨by simp only [groundL, ground, groundA, g0, g1, Bool.and_true]; rfl, memL tblCha W, [], ok, ?_⟩
    by_cases hn : n ≤ 1048576
    · by_cases hm : m ≤ 1048576
      · have rt := held_one (roS_all x1 (by omega))
        have re := held_one (roS_all x2 (by omega))
        have bx := fun i hi => (x1 i hi).2
        have bY := fun i hi => (x2 i hi).2
        cases hb : (lenBad n m || !tagP k nn n (cellsI .u8 n (roN (memL tblCha W) b1 o1)) m (cellsI .u8 m (roN (memL tblCha W) b2 o2))) with
        | true => exact acalls_of_evFC (L6n_sound W) mix Tryd.func6 (r6nss _ k nn b1 o1 n c b2 o2 m e) (pins6n_held rt re rk rn bx bY hn hm hb)
        | false =>
          obtain ⟨hb1, hb2⟩ := Bool.or_eq_false_iff.1 hb
          obtain ⟨q1, q2, q3⟩ := (lenBad_cases (by omega : n ≤ 4611686018427387904)).2 hb1
          exact acalls_of_evFC (L6_sound W) mix Tryd.func6 (r6ss _ k nn b1 o1 n c b2 o2 m e) (pins6_held rt re rk rn bx bY q1 q2 q3 (by simpa using hb2))
      · exact acalls_of_evFC (L6_sound W) mix Tryd.func6 (r6ms _ k nn b1 o1 n c b2 o2 m e) (held_cons (by rw [decide_eq_false_iff_not]; omega) (held_one (by rw [decide_eq_true_eq]; omega)))
    · exact acalls_of_evFC (L6_sound W) mix Tryd.func6 (r6ls _ k nn b1 o1 n c b2 o2 m e) (held_one (by rw [decide_eq_true_eq]; omega))

set_option maxRecDepth 100000 in
theorem FnExactOpen_lifted (os : Os) (started : os.Started) (H : Type) (enc : TypeId × Value → H) :
    ReturnsInHanded {} Tryd.checked os 6 .any (fun w args => (Rows.fnExactOpenSpec.pre enc Tryd.prog Tryd.f6 [] false w args ∧ laidMetH Tryd.prog laidCha w) ∧ sizedMet enc Tryd.prog Tryd.f6 (OpenSpec.ofChange Rows.fnExactOpenSpec) false w args)
      (Rows.fnExactOpenSpec.post enc Tryd.prog Tryd.f6 false true false false) :=
  liftedL own (by kernel_rfl) Tryd.func6 (tb := 4) (by kernel_rfl) Tryd.underlying4 (by kernel_rfl) (by kernel_rfl) (laid := laidCha) (fun H ds gs h h2 => by
      obtain ⟨_, _, _, _, rfl⟩ := len4 (l := ds) (h.trans (by kernel_rfl)); obtain ⟨_, rfl⟩ := len1 (l := gs) (h2.trans (by kernel_rfl)); rfl)
    (fun W base H enc args ds ps hL h hv => by
      rw [show Tryd.f6.params = _ from Tryd.params6] at h hv
      obtain ⟨v0, v1, v2, v3, d0, d1, d2, d3, p0, p1, p2, p3, rfl, rfl, rfl, h0, h1, h2, h3⟩ := Go.RowKit.trodAll_four h
      exact run6 W base hL v0 (hv 0 _ v0 rfl rfl) h0 v1 (hv 1 _ v1 rfl rfl) h1 v2 (hv 2 _ v2 rfl rfl) h2 v3 (hv 3 _ v3 rfl rfl) h3) os started enc
    (ChangeSpec.witness_shaped (enc := enc) (C := Tryd.checked) (os := os) (X := fun w _ => laidMetH Tryd.prog laidCha w) false (World.doorLaid Tryd.prog 400 os) #[(.agg (Array.replicate 32 (.int .u8 0))), (.agg (Array.replicate 12 (.int .u8 0))), (.slice none 0 0), (.slice none 0 0)] 64 rfl (World.shaped_of_RefB (by kernel_rfl) (by kernel_rfl)) (by kernel_rfl) (by kernel_rfl) (by kernel_rfl) (door_met os _))

set_option maxRecDepth 100000 in
theorem FnExactOpen_row : Rows.FnExactOpenSaid :=
  OpenClaim.holds_of_wide 6 Tryd.f6 rfl rfl rfl rfl rfl rfl rfl ⟨rfl, rfl, rfl, rfl, rfl⟩ rfl rfl rfl rfl rfl (by kernel_rfl) Tryd.func6 (by kernel_rfl)
    (of_decide_eq_true (by kernel_rfl)) (by unfold Func.isWrapper; first | (rw [if_pos (by decide +kernel)]; kernel_rfl) | (rw [if_neg (by decide +kernel)]; exact ⟨rfl, rfl⟩))
    (fun os started H enc _ => FnExactOpen_lifted os started H enc)

set_option maxRecDepth 100000 in
/-- The statement: the row with its variables tied to the program's text. -/
theorem FnExactOpen_holds : Rows.FnExactOpenCardSaid :=
  Claim7.holds_tied_plain_at .later [] [.widerDeep] true (true, "4e403907b894438770c9b4d8f2302bf91f824e52f63195d1585c3c77d878912d") false
    FnExactOpen_row (fun _ h => by cases h) (by kernel_rfl) (fun _ h => by cases h) fnExactOpen_row_tie rfl ⟨rfl, rfl⟩ (by kernel_rfl) rfl
    (fun f fn hf hfn => by
      obtain rfl : f = 6 := Option.some.inj ((show Tryd.prog.funcNamed "loop.example/s02974/laws.FnExactOpen" = some 6 by kernel_rfl).symm.trans hf) |>.symm
      obtain rfl : fn = Tryd.f6 := (Option.some.inj (Tryd.func6.symm.trans hfn)).symm
      exact ⟨by kernel_rfl, fun j t ht => by
        rw [Tryd.params6] at ht
        have hm : t ∈ [22, 24, 36, 36] := by simpa using Array.mem_of_getElem? ht
        have hall : ([22, 24, 36, 36].all fun u => !Tryd.prog.wantsStandIn u) = true := by kernel_rfl
        exact (show Tryd.prog.wantsStandIn t = false by simpa using List.all_eq_true.1 hall t hm)⟩)
    (by kernel_rfl)


end Go.Proofs.YtgnbmjhljlbkhaaDoor
