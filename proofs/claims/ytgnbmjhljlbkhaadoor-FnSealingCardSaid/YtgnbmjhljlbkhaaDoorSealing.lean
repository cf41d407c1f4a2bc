/- The law FnSealing: what is sealed is opened; the hidden text; changed boxes.
   Conditions: the variable chaWords is as the program's text lays it. -/
import Derived.Test.YtgnbmjhljlbkhaaDoorXSeal
import Derived.Test.YtgnbmjhljlbkhaaDoorOpen
import Derived.Test.YtgnbmjhljlbkhaaDoorLength
import Derived.Test.YtgnbmjhljlbkhaaDoorAbD
open Go.Ab Go.Num
set_option linter.unusedVariables false
set_option linter.unusedSimpArgs false
namespace Go.Proofs.YtgnbmjhljlbkhaaDoor

noncomputable def I32 (M : Mem) : Sum := inl Tryd.prog M (fns []) 1000 32 Tryd.f32
theorem I32_s (M : Mem) : (I32 M).Sound Tryd.prog M := inl_sound fns_nil mix Tryd.func32 (by kernel_rfl) (by kernel_rfl)
noncomputable def LS (W : World) : List Sum := [I32 (memL tblCha W), arrSumG Tryd.prog (memL tblCha W) 33 32, arrSumG Tryd.prog (memL tblCha W) 34 24, szSum 37, lenSumG Tryd.prog (memL tblCha W) 36, bytSumG Tryd.prog (memL tblCha W) 35, cpSum 38, xsealSum 29, xopenSum 31 16, hchaSum 17, sealSum 21]
theorem LS_sound (W : World) : ∀ s ∈ LS W, s.SoundC Tryd.prog (memL tblCha W) :=
  consC (I32_s _).c (consC (dK _) (consC (dA _) (consC (size37 _) (consC (l36 _) (consC (dB _) (consC (cp38 _) (consC (xseal29 W) (consC (xopen31 W) (consC (hcha17 W) (consC (seal21 W) nilC))))))))))

/-! ### The loop over the text -/
noncomputable def loop4 : Code := loopOf 4 (Tryd.f9.body.getD .skip)
noncomputable def loop6 : Code := loopOf 6 (Tryd.f9.body.getD .skip)
set_option maxRecDepth 100000 in
theorem occ4 : occ 4 (Tryd.f9.body.getD .skip) = [.loop loop4] := by kernel_rfl
set_option maxRecDepth 100000 in
theorem occ6 : occ 6 (Tryd.f9.body.getD .skip) = [.loop loop6] := by kernel_rfl
def liveX : List Nat := [3, 6, 7, 8, 11, 15, 117, 118]
def liveY : List Nat := [3, 7, 8, 11, 15, 19]
def tS (n : Nat) (b : Nat) : Value := .slice (some ⟨b, 0, some n⟩) n n
def vsX (n m : Nat) (i : Int) : List Value := [.pointer (some ⟨0, 0, some 3⟩), tS n 3, tS m 4, tS (n + 16) 7, .pointer (some ⟨11, 0, some 12⟩), .pointer (some ⟨13, 0, some 32⟩), .int .i64 n, .int .i64 i]
def gO (X : List Value) : Option AObj := some ⟨X, true, 1, true⟩
def aO (X : List Value) : Option AObj := some ⟨X, false, 1, true⟩
def hsX (s : List Value) (k w : List Value) (X Y X2 Y2 B B2 Y3 T : List Value) (nn : Nat → Int) (hf : List Value) (sk : Nat → Int) (X4 Y4 B4 : List Value) : AHeap :=
  [some ⟨s, false, 1, false⟩, aO k, aO w, gO X, gO Y, gO X2, gO Y2, gO B, gO B2, gO Y3, gO T, aO (cellsI .u8 12 nn), aO hf, aO (cellsI .u8 32 sk), gO X4, gO Y4, gO B4]
def ix (i : Int) : Nat := 0 + i.toNat * 1
def bodyF (sk nn : Nat → Int) (i : Int) : List Value := blockF (wd (cellsI .u8 32 sk)) (IntKind.u32.wrap (IntKind.i64.wrap (1 + IntKind.i64.wrap (i.tdiv 64)))) (wd (cellsI .u8 12 nn))
def pinX (n : Nat) (i : Int) (X B : List Value) (sk nn : Nat → Int) : Pins :=
  [(decide (i < (n : Int)), true), (rngB (cellsI .u8 32 sk), true), (rngB (cellsI .u8 12 nn), true), (inB i (n + 16), true), (ldB .u8 ⟨B, true, 1, true⟩ (n + 16) (ix i), true), (inB i n, true), (ldB .u8 ⟨X, true, 1, true⟩ n (ix i), true),
   (inB (i.tmod 64) 64, true), (ldB .u8 ⟨bodyF sk nn i, false, 1, true⟩ 64 (ix (i.tmod 64)), true), (vint (atC B (ix i)) != bits .xor .u8 (vint (atC X (ix i))) (vint (atC (bodyF sk nn i) (ix (i.tmod 64)))), false)]
set_option maxRecDepth 100000 in
theorem stepXs (M : Mem) (n m : Nat) (i : Int) (b off sn sc : Nat) (si sx : Int) (k w X Y X2 Y2 B B2 Y3 T : List Value) (nn : Nat → Int) (hf : List Value) (sk : Nat → Int) (X4 Y4 B4 : List Value) (z : Nat → Value) :
   viewK liveX [] 17 0 (evU Tryd.prog M (ovE Tryd.prog M) [130, 131, 134, 135, 138, 139] [] [chaSum 13] [119, 141] 300 loop4 ⟨mkT 192 liveX (vsX n m i) z, hsX (srcC (some (b, off)) sn sc si sx) k w X Y X2 Y2 B B2 Y3 T nn hf sk X4 Y4 B4⟩ [true, false])
   = some (.normal, vsX n m (IntKind.i64.wrap (i + 1)), hsX (srcC (some (b, off)) sn sc si sx) k w X Y X2 Y2 B B2 Y3 T nn hf sk X4 Y4 B4, 192, pinX n i X B sk nn) := by kernel_rfl
set_option maxRecDepth 100000 in
theorem stepXz (M : Mem) (n m : Nat) (i : Int) (si sx : Int) (k w X Y X2 Y2 B B2 Y3 T : List Value) (nn : Nat → Int) (hf : List Value) (sk : Nat → Int) (X4 Y4 B4 : List Value) (z : Nat → Value) :
   viewK liveX [] 17 0 (evU Tryd.prog M (ovE Tryd.prog M) [130, 131, 134, 135, 138, 139] [] [chaSum 13] [119, 141] 300 loop4 ⟨mkT 192 liveX (vsX n m i) z, hsX (srcC none 0 0 si sx) k w X Y X2 Y2 B B2 Y3 T nn hf sk X4 Y4 B4⟩ [true, false])
   = some (.normal, vsX n m (IntKind.i64.wrap (i + 1)), hsX (srcC none 0 0 si sx) k w X Y X2 Y2 B B2 Y3 T nn hf sk X4 Y4 B4, 192, pinX n i X B sk nn) := by kernel_rfl
set_option maxRecDepth 100000 in
theorem lastX (M : Mem) (n m : Nat) (i : Int) (H : AHeap) (z : Nat → Value) :
   viewU liveX (evU Tryd.prog M (ovE Tryd.prog M) [130, 131, 134, 135, 138, 139] [] [chaSum 13] [119, 141] 300 loop4 ⟨mkT 192 liveX (vsX n m i) z, H⟩ [false])
   = some (.exit 4, vsX n m i, H, 192, [(decide (i < (n : Int)), false)]) := by kernel_rfl
theorem stepX (M : Mem) (n m : Nat) (i : Int) (u : Option (Nat × Nat)) (sn sc : Nat) (si sx : Int) (k w X Y X2 Y2 B B2 Y3 T : List Value) (nn : Nat → Int) (hf : List Value) (sk : Nat → Int) (X4 Y4 B4 : List Value) (z : Nat → Value) (hu : u = none → sn = 0 ∧ sc = 0) :
   viewK liveX [] 17 0 (evU Tryd.prog M (ovE Tryd.prog M) [130, 131, 134, 135, 138, 139] [] [chaSum 13] [119, 141] 300 loop4 ⟨mkT 192 liveX (vsX n m i) z, hsX (srcC u sn sc si sx) k w X Y X2 Y2 B B2 Y3 T nn hf sk X4 Y4 B4⟩ [true, false])
   = some (.normal, vsX n m (IntKind.i64.wrap (i + 1)), hsX (srcC u sn sc si sx) k w X Y X2 Y2 B B2 Y3 T nn hf sk X4 Y4 B4, 192, pinX n i X B sk nn) := by
  cases u with
  | some a => obtain ⟨b, off⟩ := a; exact stepXs M n m i b off sn sc si sx k w X Y X2 Y2 B B2 Y3 T nn hf sk X4 Y4 B4 z
  | none => obtain ⟨rfl, rfl⟩ := hu rfl; exact stepXz M n m i si sx k w X Y X2 Y2 B B2 Y3 T nn hf sk X4 Y4 B4 z

/-- The box's bytes are the text's, hidden by the stream. -/
structure BoxOk (n : Nat) (X B : List Value) (sk nn : Nat → Int) : Prop where
  hn : n ≤ 65536
  hx : X = cellsI .u8 n (wd X)
  hb : B = cellsI .u8 (n + 16) (wd B)
  hs : rngB (cellsI .u8 32 sk) = true
  hw : rngB (cellsI .u8 12 nn) = true
  he : ∀ j, j < n → wd B j = strF (cellsI .u8 32 sk) (cellsI .u8 12 nn) X 0 j

theorem ld_cells {n s : Nat} {x : Nat → Int} {g : Bool} {e j : Nat} (h : j < n) (hs : s = n) : ldB .u8 ⟨cellsI .u8 n x, g, e, true⟩ s j = true := by
  subst hs
  simp only [ldB, Bool.and_eq_true, decide_eq_true_eq]
  exact ⟨cellsI_length _ _ _, by simp [atC, cellsI, h, isI]⟩
theorem pinX_held {n : Nat} {X B : List Value} {sk nn : Nat → Int} (h : BoxOk n X B sk nn) {j : Nat} (hj : j < n) : Held (pinX n (j : Int) X B sk nn) := by
  have hn := h.hn
  have ej : ix (j : Int) = j := by unfold ix; omega
  have et : ((j : Int).tmod 64) = ((j % 64 : Nat) : Int) := by rw [Int.tmod_eq_emod_of_nonneg (by omega)]; omega
  have em : ix ((j : Int).tmod 64) = j % 64 := by rw [et]; unfold ix; omega
  have ec : bodyF sk nn (j : Int) = blockF (wd (cellsI .u8 32 sk)) (ctrB (j / 64)) (wd (cellsI .u8 12 nn)) := by
    unfold bodyF ctrB
    rw [Int.tdiv_eq_ediv_of_nonneg (by omega), Ab.wrap_i64 (n := (j : Int) / 64) (by omega) (by omega), Ab.wrap_i64 (n := 1 + (j : Int) / 64) (by omega) (by omega)]
    congr 2
    omega
  obtain ⟨b1, b2⟩ := Bool.and_eq_true_iff.1 (blkB_block (wd (cellsI .u8 32 sk)) (wd (cellsI .u8 12 nn)) (ctrB (j / 64)))
  have l1 : ldB .u8 ⟨B, true, 1, true⟩ (n + 16) (ix (j : Int)) = true := by rw [ej, h.hb]; exact ld_cells (by omega) rfl
  have l2 : ldB .u8 ⟨X, true, 1, true⟩ n (ix (j : Int)) = true := by rw [ej, h.hx]; exact ld_cells hj rfl
  refine held_cons (by rw [decide_eq_true_eq]; omega) (held_cons h.hs (held_cons h.hw (held_cons ?_ (held_cons l1 (held_cons ?_ (held_cons l2 (held_cons ?_ (held_cons ?_ (held_one ?_)))))))))
  · simp only [inB, Bool.and_eq_true, decide_eq_true_eq]; omega
  · simp only [inB, Bool.and_eq_true, decide_eq_true_eq]; omega
  · rw [et]; simp only [inB, Bool.and_eq_true, decide_eq_true_eq]; omega
  · rw [em, ec]
    have hl := Nat.eq_of_beq_eq_true b1
    simp only [ldB, Bool.and_eq_true, decide_eq_true_eq]
    refine ⟨hl, ?_⟩
    have hm : j % 64 < (blockF (wd (cellsI .u8 32 sk)) (ctrB (j / 64)) (wd (cellsI .u8 12 nn))).length := by rw [hl]; omega
    have ea : atC (blockF (wd (cellsI .u8 32 sk)) (ctrB (j / 64)) (wd (cellsI .u8 12 nn))) (j % 64) = (blockF (wd (cellsI .u8 32 sk)) (ctrB (j / 64)) (wd (cellsI .u8 12 nn)))[j % 64] := by simp [atC, hm]
    rw [ea]
    exact List.all_eq_true.1 b2 _ (List.getElem_mem hm)
  · rw [ej, em, ec]
    have := h.he j hj
    unfold strF at this
    rw [Nat.zero_add] at this
    show (wd B j != bits .xor .u8 (wd X j) (wd (blockF (wd (cellsI .u8 32 sk)) (ctrB (j / 64)) (wd (cellsI .u8 12 nn))) (j % 64))) = false
    rw [this]
    simp

theorem loopXB (W : World) {n m : Nat} {u : Option (Nat × Nat)} {sn sc : Nat} {si sx : Int} {k w X Y X2 Y2 B B2 Y3 T : List Value} {nn : Nat → Int} {hf : List Value} {sk : Nat → Int} {X4 Y4 B4 : List Value} (hu : u = none → sn = 0 ∧ sc = 0) (h : BoxOk n X B sk nn) (z : Nat → Value) :
    ∃ z', Big Tryd.prog (memL tblCha W) (.block 4 (.loop loop4)) ⟨mkT 192 liveX (vsX n m ((0 : Nat) : Int)) z, hsX (srcC u sn sc si sx) k w X Y X2 Y2 B B2 Y3 T nn hf sk X4 Y4 B4⟩ .normal
      ⟨mkT 192 liveX (vsX n m (n : Int)) z', hsX (srcC u sn sc si sx) k w X Y X2 Y2 B B2 Y3 T nn hf sk X4 Y4 B4⟩ := by
  have hn := h.hn
  obtain ⟨z', hz⟩ := loop_bigK (k := 17) (P := Tryd.prog) (M := memL tblCha W) (c := loop4) (N := 192) (n := n) (live := liveX) (live' := liveX) (V := fun i => vsX n m (i : Int)) (H := fun _ => hsX (srcC u sn sc si sx) k w X Y X2 Y2 B B2 Y3 T nn hf sk X4 Y4 B4) (e := .exit 4)
    (V' := vsX n m (n : Int)) (H' := hsX (srcC u sn sc si sx) k w X Y X2 Y2 B B2 Y3 T nn hf sk X4 Y4 B4) (by simp) (Nat.le_refl 17)
    (fun i hi z => by
      obtain ⟨z', hb⟩ := bigK_view (ovE_ok _ _) (consC (cha13 W) nilC) mix (hooksOk_nil _) (stepX (memL tblCha W) n m (i : Int) u sn sc si sx k w X Y X2 Y2 B B2 Y3 T nn hf sk X4 Y4 B4 z hu) (pinX_held h hi)
      rw [Ab.wrap_i64 (by omega) (by omega)] at hb
      exact ⟨z', hb⟩)
    (fun z => by
      obtain ⟨z', hb⟩ := big_view (ovE_ok _ _) (consC (cha13 W) nilC) mix (hooksOk_nil _) (lastX (memL tblCha W) n m (n : Int) (hsX (srcC u sn sc si sx) k w X Y X2 Y2 B B2 Y3 T nn hf sk X4 Y4 B4) z) (held_one (by rw [decide_eq_false_iff_not]; omega))
      exact ⟨z', Big.toK hb⟩) z
  exact ⟨z', block_big hz⟩

/-! ### The rounds with changed boxes -/
def vsY (n m : Nat) (j : Int) : List Value := [.pointer (some ⟨0, 0, some 3⟩), tS m 4, tS (n + 16) 7, .pointer (some ⟨11, 0, some 12⟩), .pointer (some ⟨13, 0, some 32⟩), .int .i64 j]
noncomputable def LY (M : Mem) : List Sum := [nSumG M 39, cpSum 38, openSum 26 16, openSum 25 0]
noncomputable def LYn (M : Mem) : List Sum := [nSumG M 39, cpSum 38, noOpenSum 26, noOpenSum 25]
def dY (M : Mem) (u : Option Addr) (ln : Nat) (p : Int × Int) (j : Nat) : Int × Int := drawC M u ln p j
/-- A copy. -/
def cpY (n : Nat) (B : List Value) : List Value := cellsI .u8 n (fun i => wd B (0 + i))
def ixY (M : Mem) (u : Option Addr) (ln : Nat) (p : Int × Int) (n : Nat) : Int := nK ((n + 16 : Nat) : Int) (dY M u ln p 1).1
def dlY (M : Mem) (u : Option Addr) (ln : Nat) (p : Int × Int) : Int := IntKind.u8.wrap (IntKind.i64.wrap (1 + nK 255 (dY M u ln p 2).1))
/-- The box with one byte changed. -/
def badY (M : Mem) (u : Option Addr) (ln : Nat) (p : Int × Int) (n : Nat) (B : List Value) : List Value :=
  wr (cpY (n + 16) B) (ix (ixY M u ln p n)) [.int .u8 (bits .xor .u8 (vint (atC (cpY (n + 16) B) (ix (ixY M u ln p n)))) (dlY M u ln p))]
def pinY (M : Mem) (u : Option Addr) (ln : Nat) (p : Int × Int) (n m : Nat) (i : Int) (B : List Value) : Pins :=
  [(decide (i < 4), true), (copyB B (n + 16) 0 (n + 16) (n + 16), true)] ++ dPin M u ln p ((n + 16 : Nat) : Int) ++ [(inB (ixY M u ln p n) (n + 16), true), (ldB .u8 ⟨cpY (n + 16) B, true, 1, true⟩ (n + 16) (ix (ixY M u ln p n)), true)] ++
  dPin M u ln (dY M u ln p 1) 255 ++ [(inB (ixY M u ln p n) (n + 16), true), (stB ⟨cpY (n + 16) B, true, 1, true⟩ (n + 16) (ix (ixY M u ln p n)) 1, true)]
def opnY (n m : Nat) (Y bad : List Value) (sk nn : Nat → Int) (b : Bool) : Pins :=
  [(copyB bad (n + 16) 0 (n + 16) (n + 16), true), (copyB Y m 0 m m, true), (rngB (cellsI .u8 32 sk), true), (rngB (cellsI .u8 12 nn), true)] ++
  (bif b then [(dataB (cpY (n + 16) bad) (n + 16) 0 (n + 16) (n + 16) && (Nat.ble 16 (n + 16) && Nat.ble (n + 16) 65552), true), (dataB (cpY m Y) m 0 m m && Nat.ble m 65536, true), (tagB (cellsI .u8 32 sk) (cellsI .u8 12 nn) (cpY (n + 16) bad) 0 (n + 16) (cpY m Y) 0 m, true)]
   else [(dataB (cpY (n + 16) bad) (n + 16) 0 (n + 16) (n + 16), true), (dataB (cpY m Y) m 0 m m, true), (lenBad (n + 16) m || !tagB (cellsI .u8 32 sk) (cellsI .u8 12 nn) (cpY (n + 16) bad) 0 (n + 16) (cpY m Y) 0 m, true)])
def txtY (n : Nat) (bad : List Value) (sk nn : Nat → Int) (e : Nat) : List Value := textV (cellsI .u8 32 sk) (cellsI .u8 12 nn) (cpY (n + 16) bad) 0 (n + 16) e
def sl0 (T : List Value) (n : Nat) : List Value := (T.drop 0).take (n * 1)
def cvY (T : List Value) (n s : Nat) : Bool × Bool := ((sl0 T n).all (isI .u8) && (decide (T.length = s) && (decide (0 + n * 1 ≤ s) && decide (n ≤ n))), true)
def strY (n m : Nat) (bad : List Value) (sk nn : Nat → Int) : Pins :=
  [cvY (txtY n bad sk nn 16) (n + 16 - 16) (n + 16 - 16 + 16), cvY (txtY n bad sk nn 0) (n + 16 - 16) (n + 16 - 16 + 0), (!((strB (sl0 (txtY n bad sk nn 16) (n + 16 - 16))).toList == (strB (sl0 (txtY n bad sk nn 0) (n + 16 - 16))).toList), false)]
set_option maxRecDepth 100000 in
theorem stepYs (M : Mem) (n m : Nat) (i : Int) (b off sn sc : Nat) (si sx : Int) (k w X Y X2 Y2 B B2 Y3 T : List Value) (nn : Nat → Int) (hf : List Value) (sk : Nat → Int) (X4 Y4 B4 : List Value) (z : Nat → Value) :
   viewK liveY [] 17 0 (evU Tryd.prog M (ovE Tryd.prog M) [154, 155, 161, 187, 189] [] (LY M) [144, 190] 300 loop6 ⟨mkT 192 liveY (vsY n m i) z, hsX (srcC (some (b, off)) sn sc si sx) k w X Y X2 Y2 B B2 Y3 T nn hf sk X4 Y4 B4⟩ [true, false])
   = some (.normal, vsY n m (IntKind.i64.wrap (i + 1)), hsX (srcC (some (b, off)) sn sc (dY M (some ⟨b, off, none⟩) sn (sx, si) 2).2 (dY M (some ⟨b, off, none⟩) sn (sx, si) 2).1) k w X Y X2 Y2 B B2 Y3 T nn hf sk X4 Y4 B4, 192,
     pinY M (some ⟨b, off, none⟩) sn (sx, si) n m i B ++ opnY n m Y (badY M (some ⟨b, off, none⟩) sn (sx, si) n B) sk nn true ++ opnY n m Y (badY M (some ⟨b, off, none⟩) sn (sx, si) n B) sk nn true ++ strY n m (badY M (some ⟨b, off, none⟩) sn (sx, si) n B) sk nn) := by kernel_rfl
set_option maxRecDepth 100000 in
theorem stepNs (M : Mem) (n m : Nat) (i : Int) (b off sn sc : Nat) (si sx : Int) (k w X Y X2 Y2 B B2 Y3 T : List Value) (nn : Nat → Int) (hf : List Value) (sk : Nat → Int) (X4 Y4 B4 : List Value) (z : Nat → Value) :
   viewK liveY [] 17 0 (evU Tryd.prog M (ovE Tryd.prog M) [154, 155, 161] [] (LYn M) [144, 190] 300 loop6 ⟨mkT 192 liveY (vsY n m i) z, hsX (srcC (some (b, off)) sn sc si sx) k w X Y X2 Y2 B B2 Y3 T nn hf sk X4 Y4 B4⟩ [true, false])
   = some (.normal, vsY n m (IntKind.i64.wrap (i + 1)), hsX (srcC (some (b, off)) sn sc (dY M (some ⟨b, off, none⟩) sn (sx, si) 2).2 (dY M (some ⟨b, off, none⟩) sn (sx, si) 2).1) k w X Y X2 Y2 B B2 Y3 T nn hf sk X4 Y4 B4, 192,
     pinY M (some ⟨b, off, none⟩) sn (sx, si) n m i B ++ opnY n m Y (badY M (some ⟨b, off, none⟩) sn (sx, si) n B) sk nn false ++ opnY n m Y (badY M (some ⟨b, off, none⟩) sn (sx, si) n B) sk nn false ++ [(false, false)]) := by kernel_rfl
set_option maxRecDepth 100000 in
theorem stepYz (M : Mem) (n m : Nat) (i : Int) (si sx : Int) (k w X Y X2 Y2 B B2 Y3 T : List Value) (nn : Nat → Int) (hf : List Value) (sk : Nat → Int) (X4 Y4 B4 : List Value) (z : Nat → Value) :
   viewK liveY [] 17 0 (evU Tryd.prog M (ovE Tryd.prog M) [154, 155, 161, 187, 189] [] (LY M) [144, 190] 300 loop6 ⟨mkT 192 liveY (vsY n m i) z, hsX (srcC none 0 0 si sx) k w X Y X2 Y2 B B2 Y3 T nn hf sk X4 Y4 B4⟩ [true, false])
   = some (.normal, vsY n m (IntKind.i64.wrap (i + 1)), hsX (srcC none 0 0 (dY M none 0 (sx, si) 2).2 (dY M none 0 (sx, si) 2).1) k w X Y X2 Y2 B B2 Y3 T nn hf sk X4 Y4 B4, 192,
     pinY M none 0 (sx, si) n m i B ++ opnY n m Y (badY M none 0 (sx, si) n B) sk nn true ++ opnY n m Y (badY M none 0 (sx, si) n B) sk nn true ++ strY n m (badY M none 0 (sx, si) n B) sk nn) := by kernel_rfl
set_option maxRecDepth 100000 in
theorem stepNz (M : Mem) (n m : Nat) (i : Int) (si sx : Int) (k w X Y X2 Y2 B B2 Y3 T : List Value) (nn : Nat → Int) (hf : List Value) (sk : Nat → Int) (X4 Y4 B4 : List Value) (z : Nat → Value) :
   viewK liveY [] 17 0 (evU Tryd.prog M (ovE Tryd.prog M) [154, 155, 161] [] (LYn M) [144, 190] 300 loop6 ⟨mkT 192 liveY (vsY n m i) z, hsX (srcC none 0 0 si sx) k w X Y X2 Y2 B B2 Y3 T nn hf sk X4 Y4 B4⟩ [true, false])
   = some (.normal, vsY n m (IntKind.i64.wrap (i + 1)), hsX (srcC none 0 0 (dY M none 0 (sx, si) 2).2 (dY M none 0 (sx, si) 2).1) k w X Y X2 Y2 B B2 Y3 T nn hf sk X4 Y4 B4, 192,
     pinY M none 0 (sx, si) n m i B ++ opnY n m Y (badY M none 0 (sx, si) n B) sk nn false ++ opnY n m Y (badY M none 0 (sx, si) n B) sk nn false ++ [(false, false)]) := by kernel_rfl
set_option maxRecDepth 100000 in
theorem lastY (M : Mem) (n m : Nat) (i : Int) (H : AHeap) (z : Nat → Value) :
   viewU liveY (evU Tryd.prog M (ovE Tryd.prog M) [] [] [] [144] 300 loop6 ⟨mkT 192 liveY (vsY n m i) z, H⟩ [false])
   = some (.exit 6, vsY n m i, H, 192, [(decide (i < 4), false)]) := by kernel_rfl

theorem copy_cells {n : Nat} {x : Nat → Int} (hn : n ≤ 1048576) (h : ∀ i, i < n → IntKind.u8.has (x i)) : copyB (cellsI .u8 n x) n 0 n n = true :=
  Bool.and_eq_true_iff.2 ⟨data_cells (by omega) h, Nat.ble_eq_true_of_le hn⟩
theorem cpY_has {n : Nat} {x : Nat → Int} (h : ∀ i, i < n → IntKind.u8.has (x i)) : ∀ i, i < n → IntKind.u8.has (wd (cellsI .u8 n x) (0 + i)) := fun i hi => by
  rw [Nat.zero_add, wd_cellsI hi]; exact h i hi
theorem sl0_cells {n e : Nat} {F : Nat → Int} : sl0 (cellsI .u8 (n + e) F) n = cellsI .u8 n F := by
  unfold sl0
  rw [List.drop_zero, Nat.mul_one]
  apply List.ext_getElem (by simp [cellsI])
  intro i h1 h2
  simp [cellsI]
theorem cvY_ok {n e : Nat} {F : Nat → Int} : (cvY (cellsI .u8 (n + e) F) n (n + e)).1 = true := by
  show ((sl0 (cellsI .u8 (n + e) F) n).all (isI .u8) && (decide ((cellsI .u8 (n + e) F).length = n + e) && (decide (0 + n * 1 ≤ n + e) && decide (n ≤ n)))) = true
  rw [sl0_cells, all_u8, cellsI_length]
  simp only [Bool.true_and, Bool.and_eq_true, decide_eq_true_eq]
  exact ⟨trivial, by omega, Nat.le_refl n⟩
theorem strY_held (n m : Nat) (bad : List Value) (sk nn : Nat → Int) : Held (strY n m bad sk nn) := by
  refine held_cons cvY_ok (held_cons cvY_ok (held_one ?_))
  have e1 : sl0 (txtY n bad sk nn 16) (n + 16 - 16) = sl0 (txtY n bad sk nn 0) (n + 16 - 16) := (sl0_cells (e := 16)).trans (sl0_cells (e := 0)).symm
  rw [e1]
  simp

section
variable {M : Mem} {u : Option Addr} {ln n m : Nat} {p : Int × Int} {b y : Nat → Int} {sk nn : Nat → Int}
theorem ixY_range (hn : n ≤ 65536) : 0 ≤ ixY M u ln p n ∧ ixY M u ln p n < ((n + 16 : Nat) : Int) := nK_range (drawC_x (M := M) (u := u) (n := ln) (p := p) 0) (by omega) (by omega)
theorem badY_eq (hn : n ≤ 65536) (hb : ∀ i, i < n + 16 → IntKind.u8.has (b i)) : ∃ c : Nat → Int, badY M u ln p n (cellsI .u8 (n + 16) b) = cellsI .u8 (n + 16) c ∧ ∀ i, i < n + 16 → IntKind.u8.has (c i) := by
  obtain ⟨h0, h1⟩ := ixY_range (M := M) (u := u) (ln := ln) (p := p) hn
  have hi : ix (ixY M u ln p n) < n + 16 := by unfold ix; omega
  refine ⟨_, wr_cellsI hi, fun i h => ?_⟩
  unfold upd
  cases Nat.beq i (ix (ixY M u ln p n)) with
  | true => rw [cond_true]; exact bits_has8 _ _ _
  | false => rw [cond_false]; exact cpY_has hb i h
theorem pinY_held (hu : nOk M u ln = true) (hl : ln ≤ 1048576) (hp : 0 ≤ p.2) (hn : n ≤ 65536) (hb : ∀ i, i < n + 16 → IntKind.u8.has (b i)) {i : Int} (hi : i < 4) : Held (pinY M u ln p n m i (cellsI .u8 (n + 16) b)) := by
  obtain ⟨h0, h1⟩ := ixY_range (M := M) (u := u) (ln := ln) (p := p) hn
  have hx : ix (ixY M u ln p n) < n + 16 := by unfold ix; omega
  have hD : ∀ j, 0 ≤ (dY M u ln p j).2 := fun j => drawC_ok hl hp j
  have q1 : inB (ixY M u ln p n) (n + 16) = true := by simp only [inB, Bool.and_eq_true, decide_eq_true_eq]; exact ⟨h0, h1⟩
  have q2 : stB ⟨cpY (n + 16) (cellsI .u8 (n + 16) b), true, 1, true⟩ (n + 16) (ix (ixY M u ln p n)) 1 = true := by
    simp only [stB, Bool.and_eq_true, decide_eq_true_eq]
    exact ⟨cellsI_length _ _ _, by omega⟩
  exact held_two (held_two (held_two (held_two (held_cons (decide_eq_true hi) (held_one (copy_cells (by omega) hb))) (dPin_held hu hp (by omega))) (held_cons q1 (held_one (ld_cells hx rfl)))) (dPin_held hu (hD 1) (by decide))) (held_cons q1 (held_one q2))
theorem opnY_held (hn : n ≤ 65536) (hm : m ≤ 65536) (hs : rngB (cellsI .u8 32 sk) = true) (hw : rngB (cellsI .u8 12 nn) = true) {c : Nat → Int} (hc : ∀ i, i < n + 16 → IntKind.u8.has (c i)) (hy : ∀ i, i < m → IntKind.u8.has (y i)) {r : Bool}
    (h : tagB (cellsI .u8 32 sk) (cellsI .u8 12 nn) (cpY (n + 16) (cellsI .u8 (n + 16) c)) 0 (n + 16) (cpY m (cellsI .u8 m y)) 0 m = r) : Held (opnY n m (cellsI .u8 m y) (cellsI .u8 (n + 16) c) sk nn r) := by
  have d1 : dataB (cpY (n + 16) (cellsI .u8 (n + 16) c)) (n + 16) 0 (n + 16) (n + 16) = true := data_cells (by omega) (cpY_has hc)
  have d2 : dataB (cpY m (cellsI .u8 m y)) m 0 m m = true := data_cells (by omega) (cpY_has hy)
  refine held_two (held_cons (copy_cells (by omega) hc) (held_cons (copy_cells (by omega) hy) (held_cons hs (held_one hw)))) ?_
  cases r with
  | true =>
    exact held_cons (by rw [d1, Nat.ble_eq_true_of_le (by omega), Nat.ble_eq_true_of_le (by omega)]; rfl) (held_cons (by rw [d2, Nat.ble_eq_true_of_le hm]; rfl) (held_one h))
  | false =>
    exact held_cons d1 (held_cons d2 (held_one (by rw [h]; simp)))
end

theorem LY_sound (W : World) : ∀ s ∈ LY (memL tblCha W), s.SoundC Tryd.prog (memL tblCha W) := consC (dN _) (consC (cp38 _) (consC (open26 W) (consC (open25 _) nilC)))
theorem LYn_sound (W : World) : ∀ s ∈ LYn (memL tblCha W), s.SoundC Tryd.prog (memL tblCha W) := consC (dN _) (consC (cp38 _) (consC (noOpen26 W) (consC (noOpen25 _) nilC)))

theorem roundY (W : World) {n m : Nat} {u : Option (Nat × Nat)} {sn sc : Nat} {p : Int × Int} {k w X X2 Y2 B2 Y3 T : List Value} {b y : Nat → Int} {nn : Nat → Int} {hf : List Value} {sk : Nat → Int} {X4 Y4 B4 : List Value} (hu : u = none → sn = 0 ∧ sc = 0)
    (hs : srcOk (memL tblCha W) (srcA u) (lenS u sn) p.2 = true) (hn : n ≤ 65536) (hm : m ≤ 65536) (hk : rngB (cellsI .u8 32 sk) = true) (hw : rngB (cellsI .u8 12 nn) = true) (hb : ∀ i, i < n + 16 → IntKind.u8.has (b i)) (hy : ∀ i, i < m → IntKind.u8.has (y i)) {i : Int} (hi : i < 4) (z : Nat → Value) :
    ∃ z', BigK 17 Tryd.prog (memL tblCha W) loop6 ⟨mkT 192 liveY (vsY n m i) z, hsX (srcC u sn sc p.2 p.1) k w X (cellsI .u8 m y) X2 Y2 (cellsI .u8 (n + 16) b) B2 Y3 T nn hf sk X4 Y4 B4⟩ .normal
      ⟨mkT 192 liveY (vsY n m (IntKind.i64.wrap (i + 1))) z', hsX (srcC u sn sc (drawC (memL tblCha W) (srcA u) (lenS u sn) p 2).2 (drawC (memL tblCha W) (srcA u) (lenS u sn) p 2).1) k w X (cellsI .u8 m y) X2 Y2 (cellsI .u8 (n + 16) b) B2 Y3 T nn hf sk X4 Y4 B4⟩ := by
  obtain ⟨h1, h2, h3⟩ := srcOk_iff.1 hs
  obtain ⟨sx, si⟩ := p
  obtain ⟨c, ec, hc⟩ := badY_eq (M := memL tblCha W) (u := srcA u) (ln := lenS u sn) (p := (sx, si)) hn hb
  have hp := pinY_held (m := m) h1 h2 h3 hn hb hi
  cases ht : tagB (cellsI .u8 32 sk) (cellsI .u8 12 nn) (cpY (n + 16) (cellsI .u8 (n + 16) c)) 0 (n + 16) (cpY m (cellsI .u8 m y)) 0 m with
  | true =>
    have ho := opnY_held hn hm hk hw hc hy ht
    rw [← ec] at ho
    have ha := held_two (held_two (held_two hp ho) ho) (strY_held n m (badY (memL tblCha W) (srcA u) (lenS u sn) (sx, si) n (cellsI .u8 (n + 16) b)) sk nn)
    cases u with
    | some a => obtain ⟨bb, off⟩ := a; exact bigK_view (ovE_ok _ _) (LY_sound W) mix (hooksOk_nil _) (stepYs (memL tblCha W) n m i bb off sn sc si sx k w X (cellsI .u8 m y) X2 Y2 (cellsI .u8 (n + 16) b) B2 Y3 T nn hf sk X4 Y4 B4 z) ha
    | none => obtain ⟨rfl, rfl⟩ := hu rfl; exact bigK_view (ovE_ok _ _) (LY_sound W) mix (hooksOk_nil _) (stepYz (memL tblCha W) n m i si sx k w X (cellsI .u8 m y) X2 Y2 (cellsI .u8 (n + 16) b) B2 Y3 T nn hf sk X4 Y4 B4 z) ha
  | false =>
    have ho := opnY_held hn hm hk hw hc hy ht
    rw [← ec] at ho
    have ha := held_two (held_two (held_two hp ho) ho) (show Held [(false, false)] from held_one rfl)
    cases u with
    | some a => obtain ⟨bb, off⟩ := a; exact bigK_view (ovE_ok _ _) (LYn_sound W) mix (hooksOk_nil _) (stepNs (memL tblCha W) n m i bb off sn sc si sx k w X (cellsI .u8 m y) X2 Y2 (cellsI .u8 (n + 16) b) B2 Y3 T nn hf sk X4 Y4 B4 z) ha
    | none => obtain ⟨rfl, rfl⟩ := hu rfl; exact bigK_view (ovE_ok _ _) (LYn_sound W) mix (hooksOk_nil _) (stepNz (memL tblCha W) n m i si sx k w X (cellsI .u8 m y) X2 Y2 (cellsI .u8 (n + 16) b) B2 Y3 T nn hf sk X4 Y4 B4 z) ha

theorem drawC_add {M : Mem} {u : Option Addr} {n : Nat} {p : Int × Int} (a b : Nat) : drawC M u n (drawC M u n p a) b = drawC M u n p (a + b) := by
  induction b with
  | zero => rfl
  | succ b ih => show nextC M u n _ = nextC M u n _; rw [ih]; rfl

theorem loopYB (W : World) {n m : Nat} {u : Option (Nat × Nat)} {sn sc : Nat} {p : Int × Int} {k w X X2 Y2 B2 Y3 T : List Value} {b y : Nat → Int} {nn : Nat → Int} {hf : List Value} {sk : Nat → Int} {X4 Y4 B4 : List Value} (hu : u = none → sn = 0 ∧ sc = 0)
    (hs : srcOk (memL tblCha W) (srcA u) (lenS u sn) p.2 = true) (hn : n ≤ 65536) (hm : m ≤ 65536) (hk : rngB (cellsI .u8 32 sk) = true) (hw : rngB (cellsI .u8 12 nn) = true) (hb : ∀ i, i < n + 16 → IntKind.u8.has (b i)) (hy : ∀ i, i < m → IntKind.u8.has (y i)) (z : Nat → Value) :
    ∃ z', Big Tryd.prog (memL tblCha W) (.block 6 (.loop loop6)) ⟨mkT 192 liveY (vsY n m ((0 : Nat) : Int)) z, hsX (srcC u sn sc p.2 p.1) k w X (cellsI .u8 m y) X2 Y2 (cellsI .u8 (n + 16) b) B2 Y3 T nn hf sk X4 Y4 B4⟩ .normal
      ⟨mkT 192 liveY (vsY n m ((4 : Nat) : Int)) z', hsX (srcC u sn sc (drawC (memL tblCha W) (srcA u) (lenS u sn) p 8).2 (drawC (memL tblCha W) (srcA u) (lenS u sn) p 8).1) k w X (cellsI .u8 m y) X2 Y2 (cellsI .u8 (n + 16) b) B2 Y3 T nn hf sk X4 Y4 B4⟩ := by
  obtain ⟨h1, h2, h3⟩ := srcOk_iff.1 hs
  obtain ⟨z', hz⟩ := loop_bigK (k := 17) (P := Tryd.prog) (M := memL tblCha W) (c := loop6) (N := 192) (n := 4) (live := liveY) (live' := liveY) (V := fun i => vsY n m (i : Int))
    (H := fun i => hsX (srcC u sn sc (drawC (memL tblCha W) (srcA u) (lenS u sn) p (2 * i)).2 (drawC (memL tblCha W) (srcA u) (lenS u sn) p (2 * i)).1) k w X (cellsI .u8 m y) X2 Y2 (cellsI .u8 (n + 16) b) B2 Y3 T nn hf sk X4 Y4 B4) (e := .exit 6)
    (V' := vsY n m ((4 : Nat) : Int)) (H' := hsX (srcC u sn sc (drawC (memL tblCha W) (srcA u) (lenS u sn) p 8).2 (drawC (memL tblCha W) (srcA u) (lenS u sn) p 8).1) k w X (cellsI .u8 m y) X2 Y2 (cellsI .u8 (n + 16) b) B2 Y3 T nn hf sk X4 Y4 B4) (by simp) (Nat.le_refl 17)
    (fun i hi z => by
      obtain ⟨z', hr⟩ := roundY W (p := drawC (memL tblCha W) (srcA u) (lenS u sn) p (2 * i)) (k := k) (w := w) (X := X) (X2 := X2) (Y2 := Y2) (B2 := B2) (Y3 := Y3) (T := T) (hf := hf) (X4 := X4) (Y4 := Y4) (B4 := B4) (sc := sc) hu
        (srcOk_iff.2 ⟨h1, h2, drawC_ok h2 h3 (2 * i)⟩) hn hm hk hw hb hy (i := (i : Int)) (by omega) z
      rw [Ab.wrap_i64 (by omega) (by omega), drawC_add] at hr
      exact ⟨z', hr⟩)
    (fun z => by
      obtain ⟨z', hr⟩ := big_view (ovE_ok _ _) nilC mix (hooksOk_nil _) (lastY (memL tblCha W) n m ((4 : Nat) : Int) _ z) (held_one (by decide))
      exact ⟨z', Big.toK hr⟩) z
  exact ⟨z', block_big hz⟩

/-! ### Both loops as hooks -/
def SrcIs (s : List Value) : Prop := ∃ u sn sc si sx, s = srcC u sn sc si sx ∧ (u = none → sn = 0 ∧ sc = 0)
structure XOk (n1 n n2 m1 m m2 b1 b2 b3 : Nat) (n' : Int) (s X B K N : List Value) : Prop where
  e : n = n1 ∧ n = n2 ∧ m = m1 ∧ m = m2 ∧ n + 16 = b1 ∧ n + 16 = b2 ∧ n + 16 = b3 ∧ (n : Int) = n'
  hN : N = cellsI .u8 12 (wd N)
  hK : K = cellsI .u8 32 (wd K)
  hs : SrcIs s
  hB : BoxOk n X B (wd K) (wd N)
noncomputable def hookX (vs : List Value) (H : AHeap) : Option (AExit × List Value × AHeap × Pins) :=
  match vs, H with
  | [.pointer (some ⟨0, 0, some 3⟩), .slice (some ⟨3, 0, some n1⟩) n n2, .slice (some ⟨4, 0, some m1⟩) m m2, .slice (some ⟨7, 0, some b1⟩) b2 b3, .pointer (some ⟨11, 0, some 12⟩), .pointer (some ⟨13, 0, some 32⟩), .int .i64 n', .int .i64 0],
    [some ⟨s, false, 1, false⟩, some ⟨k, false, 1, true⟩, some ⟨w, false, 1, true⟩, some ⟨X, true, 1, true⟩, some ⟨Y, true, 1, true⟩, some ⟨X2, true, 1, true⟩, some ⟨Y2, true, 1, true⟩, some ⟨B, true, 1, true⟩, some ⟨B2, true, 1, true⟩, some ⟨Y3, true, 1, true⟩, some ⟨T, true, 1, true⟩,
     some ⟨N, false, 1, true⟩, some ⟨hf, false, 1, true⟩, some ⟨K, false, 1, true⟩, some ⟨X4, true, 1, true⟩, some ⟨Y4, true, 1, true⟩, some ⟨B4, true, 1, true⟩] =>
    some (.normal, vsX n m n, hsX s k w X Y X2 Y2 B B2 Y3 T (wd N) hf (wd K) X4 Y4 B4, [(@decide (XOk n1 n n2 m1 m m2 b1 b2 b3 n' s X B K N) (Classical.propDecidable _), true)])
  | _, _ => none

theorem srcIs_eq {s : List Value} (h : SrcIs s) : ∃ u sn sc si sx, s = srcC u sn sc si sx ∧ (u = none → sn = 0 ∧ sc = 0) := h
theorem hookX_ok (W : World) : ∀ s e s' p, mkHook Tryd.prog (memL tblCha W) 4 (.loop loop4) 192 liveX hookX liveX s = some (e, s', p) → Held p → Big Tryd.prog (memL tblCha W) (.block 4 (.loop loop4)) s e s' := by
  refine mkHook_ok fun vs H0 e V H p z hf hp => ?_
  unfold hookX at hf
  split at hf
  · rename_i n1 n n2 m1 m m2 b1 b2 b3 n' s k w X Y X2 Y2 B B2 Y3 T N hf' K X4 Y4 B4
    cases hf
    obtain ⟨⟨rfl, rfl, rfl, rfl, rfl, rfl, rfl, rfl⟩, hN, hK, ⟨u, sn, sc, si, sx, rfl, hu⟩, hB⟩ := @of_decide_eq_true _ (Classical.propDecidable _) (hp _ (List.mem_singleton.2 rfl))
    have := loopXB W (m := m) (si := si) (sx := sx) (k := k) (w := w) (Y := Y) (X2 := X2) (Y2 := Y2) (B2 := B2) (Y3 := Y3) (T := T) (hf := hf') (X4 := X4) (Y4 := Y4) (B4 := B4) hu hB z
    unfold hsX at this ⊢
    rw [← hN, ← hK] at this ⊢
    exact this
  · cases hf

structure YOk (m1 m m2 b1 b2 b3 : Nat) (su : Option Addr) (sn sc : Nat) (si : Int) (M : Mem) (Y B K N : List Value) : Prop where
  e : m = m1 ∧ m = m2 ∧ b2 = b1 ∧ b2 = b3 ∧ 16 ≤ b2 ∧ b2 ≤ 65552 ∧ m ≤ 65536
  hN : N = cellsI .u8 12 (wd N)
  hK : K = cellsI .u8 32 (wd K)
  rN : rngB N = true
  rK : rngB K = true
  hY : Y = cellsI .u8 m (wd Y)
  hB : B = cellsI .u8 b2 (wd B)
  rY : rngB Y = true
  rB : rngB B = true
  hu : ∃ u, su = srcA u ∧ sn = lenS u sn ∧ (u = none → sc = 0) ∧ srcOk M (srcA u) (lenS u sn) si = true
theorem has_list {n : Nat} {X : List Value} (h : X = cellsI .u8 n (wd X)) (hr : rngB X = true) : ∀ i, i < n → IntKind.u8.has (wd X i) := fun i _ => rngB_wd hr i
noncomputable def hookY (M : Mem) (vs : List Value) (H : AHeap) : Option (AExit × List Value × AHeap × Pins) :=
  match vs, H with
  | [.pointer (some ⟨0, 0, some 3⟩), .slice (some ⟨4, 0, some m1⟩) m m2, .slice (some ⟨7, 0, some b1⟩) b2 b3, .pointer (some ⟨11, 0, some 12⟩), .pointer (some ⟨13, 0, some 32⟩), .int .i64 0],
    [some ⟨[.slice su sn sc, .int .i64 si, .int .u64 sx], false, 1, false⟩, some ⟨k, false, 1, true⟩, some ⟨w, false, 1, true⟩, some ⟨X, true, 1, true⟩, some ⟨Y, true, 1, true⟩, some ⟨X2, true, 1, true⟩, some ⟨Y2, true, 1, true⟩, some ⟨B, true, 1, true⟩, some ⟨B2, true, 1, true⟩, some ⟨Y3, true, 1, true⟩, some ⟨T, true, 1, true⟩,
     some ⟨N, false, 1, true⟩, some ⟨hf, false, 1, true⟩, some ⟨K, false, 1, true⟩, some ⟨X4, true, 1, true⟩, some ⟨Y4, true, 1, true⟩, some ⟨B4, true, 1, true⟩] =>
    some (.normal, vsY (b2 - 16) m ((4 : Nat) : Int), hsX [.slice su sn sc, .int .i64 (drawC M su sn (sx, si) 8).2, .int .u64 (drawC M su sn (sx, si) 8).1] k w X Y X2 Y2 B B2 Y3 T (wd N) hf (wd K) X4 Y4 B4,
      [(@decide (YOk m1 m m2 b1 b2 b3 su sn sc si M Y B K N) (Classical.propDecidable _), true)])
  | _, _ => none

theorem hookY_ok (W : World) : ∀ s e s' p, mkHook Tryd.prog (memL tblCha W) 6 (.loop loop6) 192 liveY (hookY (memL tblCha W)) liveY s = some (e, s', p) → Held p → Big Tryd.prog (memL tblCha W) (.block 6 (.loop loop6)) s e s' := by
  refine mkHook_ok fun vs H0 e V H p z hf hp => ?_
  unfold hookY at hf
  split at hf
  · rename_i m1 m m2 b1 b2 b3 su sn sc si sx k w X Y X2 Y2 B B2 Y3 T N hf' K X4 Y4 B4
    cases hf
    obtain ⟨⟨rfl, rfl, rfl, rfl, h16, hb, hm⟩, hN, hK, rN, rK, hY, hB, rY, rB, u, rfl, hl, hu, hs⟩ := @of_decide_eq_true _ (Classical.propDecidable _) (hp _ (List.mem_singleton.2 rfl))
    have rN' : rngB (cellsI .u8 12 (wd N)) = true := by rw [← hN]; exact rN
    have rK' : rngB (cellsI .u8 32 (wd K)) = true := by rw [← hK]; exact rK
    have hz0 : u = none → sn = 0 ∧ sc = 0 := fun h => ⟨by rw [hl, h]; rfl, hu h⟩
    have hsc : ∀ (q r : Int), srcC u sn sc q r = [.slice (srcA u) sn sc, .int .i64 q, .int .u64 r] := fun q r => by
      cases u with
      | some a => rfl
      | none => obtain ⟨e1, e2⟩ := hz0 rfl; rw [e1, e2]; rfl
    have := loopYB W (n := b2 - 16) (m := m) (p := (sx, si)) (k := k) (w := w) (X := X) (X2 := X2) (Y2 := Y2) (B2 := B2) (Y3 := Y3) (T := T) (hf := hf') (X4 := X4) (Y4 := Y4) (B4 := B4) (b := wd B) (y := wd Y) hz0 hs (by omega) hm rK' rN' (fun i _ => rngB_wd rB i) (fun i _ => rngB_wd rY i) z
    rw [hsc, hsc, ← hl] at this
    unfold hsX at this ⊢
    have eb : b2 - 16 + 16 = b2 := by omega
    rw [eb, ← hN, ← hK, ← hY, ← hB] at this
    rw [← hN, ← hK]
    unfold vsY at this ⊢
    rw [eb] at this ⊢
    exact this
  · cases hf

theorem hooks_both (W : World) : HooksOk Tryd.prog (memL tblCha W) [(4, mkHook Tryd.prog (memL tblCha W) 4 (.loop loop4) 192 liveX hookX liveX), (6, mkHook Tryd.prog (memL tblCha W) 6 (.loop loop6) 192 liveY (hookY (memL tblCha W)) liveY)] (Tryd.f9.body.getD .skip) := by
  refine hooksOk_occ _ fun id' g hg c' hc => ?_
  simp only [findH] at hg
  split at hg
  · rename_i hi
    cases hg
    have := Nat.eq_of_beq_eq_true hi
    subst this
    rw [occ4] at hc
    simp at hc
    subst hc
    exact hookX_ok W
  · split at hg
    · rename_i hi
      cases hg
      have := Nat.eq_of_beq_eq_true hi
      subst this
      rw [occ6] at hc
      simp at hc
      subst hc
      exact hookY_ok W
    · cases hg
end Go.Proofs.YtgnbmjhljlbkhaaDoor
