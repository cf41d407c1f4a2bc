/- The reference's text of a source (l8Tell).
   Conditions: numbers in range. -/
import Derived.Test.YtfkdcpinajnbfaaDoorHex
open Go.Ab Go.Num
set_option linter.unusedVariables false
set_option linter.unusedSimpArgs false
namespace Go.Proofs.YtfkdcpinajnbfaaDoor
set_option maxRecDepth 100000
def hexRoB (M : Mem) (b off n : Nat) : Bool := decide (n ≤ 1048576) && ((List.range n).all (fun i => roB .u8 M b (off + i)) && inR n (roN M b off))
def hexObB (A : List Value) (g : Bool) (e s f n : Nat) : Bool := decide (n ≤ 1048576) && ((List.range n).all (fun i => ldB .u8 ⟨A, g, e, true⟩ s (f + i)) && inR n (fun i => wd A (f + i)))
def hexSum (M : Mem) : Sum :=
  { f := 16, ro := true
    S := fun args os => match args, os with
      | [.slice (some ⟨b, off, none⟩) n c], [] => some (slN 0 (hexT n (roN M b off)).length, [], [txO (hexT n (roN M b off))])
      | [.slice (some ⟨0, f, some s⟩) n c], [⟨A, g, e, true⟩] => some (slN 1 (hexT n (fun i => wd A (f + i))).length, [⟨A, g, e, true⟩], [txO (hexT n (fun i => wd A (f + i)))])
      | _, _ => none
    C := fun args os => match args, os with
      | [.slice (some ⟨b, off, none⟩) n c], [] => [(hexRoB M b off n, true)]
      | [.slice (some ⟨0, f, some s⟩) n c], [⟨A, g, e, _⟩] => [(hexObB A g e s f n, true)]
      | _, _ => [] }
theorem hexSum_sound (M : Mem) : (hexSum M).SoundC Tryd.prog M := by
  refine sumC_sound Tryd.func16 (by kernel_rfl) (by kernel_rfl) fun args os v os' ns hs hp => ?_
  simp only [hexSum] at hs hp ⊢
  split at hs
  · rename_i b off n c
    cases hs
    have h := hp (hexRoB M b off n, true) (List.Mem.head _)
    simp only [hexRoB, Bool.and_eq_true, decide_eq_true_eq, List.all_eq_true, List.mem_range] at h
    exact ⟨hex16r h.1 h.2.1 h.2.2, fun _ => rfl⟩
  · rename_i f s n c A g e
    cases hs
    have h := hp (hexObB A g e s f n, true) (List.Mem.head _)
    simp only [hexObB, Bool.and_eq_true, decide_eq_true_eq, List.all_eq_true, List.mem_range] at h
    exact ⟨hex16o h.1 h.2.1 h.2.2, fun _ => rfl⟩
  · cases hs

/-! ### l8Tell -/
def srcN4 (v6 : Bool) : Nat := bif v6 then 16 else 4
def srcK (v6 : Bool) : Value := .int .u8 (bif v6 then 54 else 52)
def srcX (v6 : Bool) (addr : Nat → Int) (port : Int) (i : Nat) : Int := wd (srcCells v6 addr port) (1 + i)
def tellC1 (v6 : Bool) (H : List UInt8) : List Value := [srcK v6, .int .u8 58] ++ ((tx H).drop 0).take (H.length * 1)
def tellC2 (v6 : Bool) (H : List UInt8) : List Value := (tellC1 v6 H).take ((2 + H.length) * 1) ++ [.int .u8 58]
def tellC3 (v6 : Bool) (H I : List UInt8) : List Value := (tellC2 v6 H).take ((2 + H.length + 1) * 1) ++ ((tx I).drop 0).take (I.length * 1)
def tellP (v6 : Bool) (addr : Nat → Int) (port : Int) (H I : List UInt8) : Pins :=
  [(hexObB (srcCells v6 addr port) false 1 18 1 (srcN4 v6), true), (apS [srcK v6, .int .u8 58] 2 (tx H) H.length H.length, true), (apS (tellC1 v6 H) (2 + H.length) [.int .u8 58] 1 1, true), (i64B (IntKind.i64.wrap port), true), (apS (tellC2 v6 H) (2 + H.length + 1) (tx I) I.length I.length, true)]
theorem e15 (M : Mem) (v6 : Bool) (addr : Nat → Int) (port : Int) (H I : List UInt8) (hH : hexT (srcN4 v6) (srcX v6 addr port) = H) (hI : Lib.itoa (IntKind.i64.wrap port) = I) :
   evFU Tryd.prog M (ovN Tryd.prog M) [16, 19, 25] [] [hexSum M, decSum] [] 400 Tryd.f15 [.agg ⟨srcCells v6 addr port⟩] [] []
   = some ((.slice (some ⟨0, 0, some ((2 + H.length + 1 + I.length) * 1)⟩) (2 + H.length + 1 + I.length) (2 + H.length + 1 + I.length), [], [⟨tellC3 v6 H I, true, 1, true⟩]), tellP v6 addr port H I) := by subst hH hI; cases v6 <;> kernel_rfl

theorem hexT_congr {x y : Nat → Int} : ∀ {n : Nat}, (∀ i, i < n → x i = y i) → hexT n x = hexT n y := by
  intro n
  induction n with
  | zero => intro _; rfl
  | succ n ih => intro h; simp only [hexT]; rw [ih fun i hi => h i (by omega), h n (by omega)]
theorem srcX_eq {v6 : Bool} {addr : Nat → Int} {port : Int} : ∀ i, i < 16 → srcX v6 addr port i = addr i := fun i hi => match i, hi with
  | 0, _ => rfl
  | 1, _ => rfl
  | 2, _ => rfl
  | 3, _ => rfl
  | 4, _ => rfl
  | 5, _ => rfl
  | 6, _ => rfl
  | 7, _ => rfl
  | 8, _ => rfl
  | 9, _ => rfl
  | 10, _ => rfl
  | 11, _ => rfl
  | 12, _ => rfl
  | 13, _ => rfl
  | 14, _ => rfl
  | 15, _ => rfl
  | n + 16, h => absurd h (by omega)
theorem itoa_len {v : Int} (hv : -9223372036854775808 ≤ v ∧ v ≤ 9223372036854775807) : (Lib.itoa v).length ≤ 21 := by
  unfold Lib.itoa
  split
  · have := nDigits_le20 (u := v.natAbs) (by omega); simp only [List.length_cons, Lib.decDigits_length]; omega
  · have := nDigits_le20 (u := v.toNat) (by omega); simp only [Lib.decDigits_length]; omega
/-- A source's text. -/
def srcT (v6 : Bool) (addr : Nat → Int) (port : Int) : List UInt8 := [bif v6 then 54 else 52, 58] ++ hexT (srcN4 v6) addr ++ [58] ++ Lib.itoa port
theorem tellC3_eq {v6 : Bool} {H I : List UInt8} : tellC3 v6 H I = tx ([bif v6 then 54 else 52, 58] ++ H ++ [58] ++ I) := by
  have e1 : tellC1 v6 H = tx ([bif v6 then 54 else 52, 58] ++ H) := by
    unfold tellC1; rw [tx_take, tx_append]; cases v6 <;> rfl
  have l1 : ([bif v6 then 54 else 52, 58] ++ H : List UInt8).length = 2 + H.length := by simp; omega
  have e2 : tellC2 v6 H = tx ([bif v6 then 54 else 52, 58] ++ H ++ [58]) := by
    unfold tellC2; rw [e1, ← l1, tx_take0, tx_append _ [58]]; rfl
  have l2 : ([bif v6 then 54 else 52, 58] ++ H ++ [58] : List UInt8).length = 2 + H.length + 1 := by rw [List.length_append, l1]; rfl
  unfold tellC3
  rw [e2, ← l2, tx_take0, tx_take, ← tx_append]
structure SrcOk (A : List Value) : Prop where
  eq : A = srcCells (vbool (atC A 0)) (fun i => wd A (1 + i)) (wd A 17)
  addr : ∀ i, i < 16 → 0 ≤ wd A (1 + i) ∧ wd A (1 + i) < 256
  port : 0 ≤ wd A 17 ∧ wd A 17 < 65536
noncomputable def srcB (A : List Value) : Bool := @decide (SrcOk A) (Classical.propDecidable _)
def srcTA (A : List Value) : List UInt8 := srcT (vbool (atC A 0)) (fun i => wd A (1 + i)) (wd A 17)
noncomputable def tellSum : Sum :=
  { f := 15, ro := true
    S := fun args os => match args, os with
      | [.agg ⟨A⟩], [] => some (slN 0 (srcTA A).length, [], [txO (srcTA A)])
      | _, _ => none
    C := fun args os => match args with
      | [.agg ⟨A⟩] => [(srcB A, true)]
      | _ => [] }
theorem tell15 {M : Mem} {v6 : Bool} {addr : Nat → Int} {port : Int} (ha : ∀ i, i < 16 → 0 ≤ addr i ∧ addr i < 256) (hp : 0 ≤ port ∧ port < 65536) :
    ACalls Tryd.prog M 15 [.agg ⟨srcCells v6 addr port⟩] [] (slN 0 (srcT v6 addr port).length) [] [txO (srcT v6 addr port)] := by
  have hn : srcN4 v6 ≤ 16 := by cases v6 <;> decide
  have hH : hexT (srcN4 v6) (srcX v6 addr port) = hexT (srcN4 v6) addr := hexT_congr fun i hi => srcX_eq i (by omega)
  have hw : IntKind.i64.wrap port = port := wrap_i64 (by omega) (by omega)
  have hI : Lib.itoa (IntKind.i64.wrap port) = Lib.itoa port := by rw [hw]
  have lH := hexT_length addr (srcN4 v6)
  have lI := itoa_len (v := port) (by omega)
  have l0 : (srcT v6 addr port).length = 2 + (hexT (srcN4 v6) addr).length + 1 + (Lib.itoa port).length := by simp only [srcT, List.length_append, List.length_cons, List.length_nil]
  have h := acalls_of_evFU (ovI_ok _ _ _ _ _) (consC (hexSum_sound M) (consC (decSum_sound M) nilC)) mix Tryd.func15 (hooksOk_nil _) (e15 M v6 addr port _ _ hH hI) ?_
  · rw [tellC3_eq, Nat.mul_one, ← l0] at h
    exact h
  · have c1 : (tellC1 v6 (hexT (srcN4 v6) addr)).length = 2 + (hexT (srcN4 v6) addr).length := by
      unfold tellC1; rw [tx_take, List.length_append, tx_length]; rfl
    have c2 : (tellC2 v6 (hexT (srcN4 v6) addr)).length = 2 + (hexT (srcN4 v6) addr).length + 1 := by
      unfold tellC2; rw [Nat.mul_one, ← c1, List.take_of_length_le (Nat.le_refl _), List.length_append]; rfl
    refine held_cons ?_ (held_cons (apS_ok rfl (tx_length _) (Nat.le_refl _) (by omega)) (held_cons (apS_ok c1 rfl (Nat.le_refl _) (by omega)) (held_cons ?_ (held_one (apS_ok c2 (tx_length _) (Nat.le_refl _) (by omega))))))
    · have hx : inR (srcN4 v6) (srcX v6 addr port) = true := inR_of fun i hi => by rw [srcX_eq i (by omega)]; exact ha i (by omega)
      have hl : (List.range (srcN4 v6)).all (fun i => ldB .u8 ⟨srcCells v6 addr port, false, 1, true⟩ 18 (1 + i)) = true := by cases v6 <;> rfl
      unfold hexObB
      rw [hl]
      show (decide (srcN4 v6 ≤ 1048576) && (true && inR (srcN4 v6) (srcX v6 addr port))) = true
      rw [hx]
      simp; omega
    · rw [hw]; exact decide_eq_true (by omega)
theorem tellSum_sound (M : Mem) : tellSum.SoundC Tryd.prog M := by
  refine sumC_sound Tryd.func15 (by kernel_rfl) (by kernel_rfl) fun args os v os' ns hs hp => ?_
  simp only [tellSum] at hs hp ⊢
  split at hs
  · rename_i A
    cases hs
    have h : SrcOk A := @of_decide_eq_true _ (Classical.propDecidable _) (hp (srcB A, true) (List.Mem.head _))
    have := tell15 (M := M) (v6 := vbool (atC A 0)) h.addr h.port
    rw [← h.eq] at this
    exact ⟨this, fun _ => rfl⟩
  · cases hs
end Go.Proofs.YtfkdcpinajnbfaaDoor
