/- The one-time authenticator as a number of a key and of data; its contract.
   Conditions: bytes in range. -/
import Derived.Test.YtgnbmjhljlbkhaaGPoly3
import Derived.Test.YtgnbmjhljlbkhaaGCha4
set_option linter.unusedVariables false
namespace Go.Num
open Go.Ab

/-- The key's first half, masked. -/
def rK0 (k : Nat → Int) : Int := bits .and .u64 (W8 k 0) 1152921487695413247
def rK1 (k : Nat → Int) : Int := bits .and .u64 (W8 k 8) 1152921487695413244
def rK (k : Nat → Int) : Int := rK0 k + 18446744073709551616 * rK1 k

/-- The residue behind i whole pieces. -/
def accM (r : Int) (cells : List Value) (f : Nat) : Nat → Int
  | 0 => 0
  | i + 1 => (accM r cells f i + blkN cells (f + 16 * i) 16) * r % P130
/-- And behind all of the data. -/
def accA (r : Int) (cells : List Value) (f n : Nat) : Int := if n % 16 = 0 then accM r cells f (n / 16) else (accM r cells f (n / 16) + blkN cells (f + 16 * (n / 16)) (n % 16)) * r % P130

/-- The tag. -/
def tagF (k : Nat → Int) (cells : List Value) (f n : Nat) : List Value := cellsI .u8 16 fun i => (accA (rK k) cells f n + (W8 k 16 + 18446744073709551616 * W8 k 24)) / 256 ^ i % 256

/-- As the program goes. -/
def accI (r : Int) (cells : List Value) (f : Nat) : Nat → Int
  | 0 => 0
  | i + 1 => foldP ((accI r cells f i + blkN cells (f + 16 * i) 16) * r)

/-- Bytes in range lie in this part of an object. -/
def dataB (cells : List Value) (s f n c : Nat) : Bool := decide (cells.length = s) && (decide (f + n ≤ s) && (decide (n ≤ c) && (decide (n ≤ 4611686018427387904) && (List.range n).all fun i => isI .u8 (atC cells (f + i)) && hasB .u8 (wd cells (f + i)))))

theorem dataB_iff {cells : List Value} {s f n c : Nat} : dataB cells s f n c = true ↔ cells.length = s ∧ f + n ≤ s ∧ n ≤ c ∧ n ≤ 4611686018427387904 ∧ ∀ i, i < n → isI .u8 (atC cells (f + i)) = true ∧ hasB .u8 (wd cells (f + i)) = true := by
  simp only [dataB, Bool.and_eq_true, decide_eq_true_eq, List.all_eq_true, List.mem_range]

theorem data_piece {cells : List Value} {s f n c : Nat} (h : dataB cells s f n c = true) {g m : Nat} (h1 : f ≤ g) (h2 : g + m ≤ f + n) : pieceB cells g s m = true := by
  obtain ⟨a, b, d, _, e⟩ := dataB_iff.1 h
  simp only [pieceB, Bool.and_eq_true, decide_eq_true_eq, List.all_eq_true, List.mem_range]
  refine ⟨a, by omega, fun i hi => ?_⟩
  have := e (g + i - f) (by omega)
  rwa [show f + (g + i - f) = g + i by omega] at this

theorem blk_range {cells : List Value} {g s m : Nat} (h : pieceB cells g s m = true) (hm : m ≤ 16) : 0 ≤ blkN cells g m ∧ blkN cells g m ≤ 680564733841876926926749214863536422911 := by
  simp only [pieceB, Bool.and_eq_true, decide_eq_true_eq, List.all_eq_true, List.mem_range] at h
  have := val_range (B := 256) (by decide) (d := fun i => wd cells (g + i)) (n := m) fun i hi => by have := has_u8 (hasB_iff.1 (h.2.2 i hi).2); omega
  have hp : (256 : Int) ^ m ≤ 256 ^ 16 := by
    have : (256 : Int) ^ 16 = 256 ^ m * 256 ^ (16 - m) := by rw [← Int.pow_add]; congr 1; omega
    rw [this]
    have h1 : (1 : Int) ≤ 256 ^ (16 - m) := by have : (0 : Int) < 256 ^ (16 - m) := Int.pow_pos (by decide); omega
    have h0 : (0 : Int) < 256 ^ m := Int.pow_pos (by decide)
    have := Int.mul_le_mul_of_nonneg_left h1 (Int.le_of_lt h0)
    omega
  have e16 : (256 : Int) ^ 16 = 340282366920938463463374607431768211456 := by decide
  have h0 : (0 : Int) < 256 ^ m := Int.pow_pos (by decide)
  unfold blkN
  omega

/-- The masked halves are small. -/
theorem and_le64 {a b : Int} (ha : IntKind.u64.has a) (hb : IntKind.u64.has b) : 0 ≤ bits .and .u64 a b ∧ bits .and .u64 a b ≤ b := by
  obtain ⟨a1, a2⟩ := has_u64 ha
  obtain ⟨b1, b2⟩ := has_u64 hb
  obtain ⟨x, rfl⟩ := Int.eq_ofNat_of_zero_le a1
  obtain ⟨y, rfl⟩ := Int.eq_ofNat_of_zero_le b1
  rw [bits_and_u64_nat _ _ (by omega) (by omega)]
  have := Nat.and_le_right (n := x) (m := y)
  omega

theorem W8_has {k : Nat → Int} (hk : ∀ i, IntKind.u8.has (k i)) (f : Nat) : IntKind.u64.has (W8 k f) := by
  have := W8_range hk f
  exact has64 this.1 (by omega)

theorem rK_range {k : Nat → Int} (hk : ∀ i, IntKind.u8.has (k i)) : (0 ≤ rK0 k ∧ rK0 k < 1152921504606846976) ∧ (0 ≤ rK1 k ∧ rK1 k < 1152921504606846976) := by
  have a := and_le64 (W8_has hk 0) (b := 1152921487695413247) ⟨by decide, by decide⟩
  have b := and_le64 (W8_has hk 8) (b := 1152921487695413244) ⟨by decide, by decide⟩
  unfold rK0 rK1
  omega

/-- A number on the way: below 2^130 + 2^128. -/
def okN (N : Int) : Prop := 0 ≤ N ∧ N < 1361129467683753853853498429727072845824 + 340282366920938463463374607431768211456

theorem okN_words {N : Int} (h : okN N) : IntKind.u64.has (N % 18446744073709551616) ∧ IntKind.u64.has (N / 18446744073709551616 % 18446744073709551616) ∧ 0 ≤ N / 340282366920938463463374607431768211456 ∧ N / 340282366920938463463374607431768211456 ≤ 4 := by
  obtain ⟨h1, h2⟩ := h
  exact ⟨has64 (by omega) (by omega), has64 (by omega) (by omega), by omega, by omega⟩

theorem okN_step {N r0 r1 : Int} (h : okN N) (h0 : 0 ≤ r0 ∧ r0 < 1152921504606846976) (h1 : 0 ≤ r1 ∧ r1 < 1152921504606846976) {b : Int} (hb : 0 ≤ b ∧ b ≤ 680564733841876926926749214863536422911) :
    okN (foldP ((N + b) * (r0 + 18446744073709551616 * r1))) := by
  obtain ⟨n1, n2⟩ := h
  have hr : 0 ≤ r0 + 18446744073709551616 * r1 ∧ r0 + 18446744073709551616 * r1 ≤ 21267647932558653966460912964485513215 := by omega
  have hm : 0 ≤ (N + b) * (r0 + 18446744073709551616 * r1) ∧ (N + b) * (r0 + 18446744073709551616 * r1) ≤ 2722258935367507707706996859454145691648 * 21267647932558653966460912964485513215 :=
    ⟨Int.mul_nonneg (by omega) hr.1, Int.mul_le_mul (by omega) hr.2 hr.1 (by omega)⟩
  exact foldP_lt hm.1 (by omega)

theorem mod_step (a b r p : Int) : (a % p + b) * r % p = (a + b) * r % p := by
  have h := Int.mul_ediv_add_emod a p
  have e : (a + b) * r = (a % p + b) * r + p * (a / p * r) := by
    conv => lhs; rw [← h]
    grind
  rw [e, Int.add_mul_emod_self_left]

theorem acc_mod (r : Int) (cells : List Value) (f : Nat) : ∀ i, accI r cells f i % P130 = accM r cells f i := by
  intro i
  induction i with
  | zero => rfl
  | succ i ih =>
    simp only [accI, accM]
    rw [foldP_mod, ← ih, mod_step]

theorem fold_acc (r : Int) (cells : List Value) (f i : Nat) (b : Int) : foldP ((accI r cells f i + b) * r) % P130 = (accM r cells f i + b) * r % P130 := by
  rw [foldP_mod, ← acc_mod, mod_step]

/-- A piece, with what it asks for as conditions. -/
def pieceSumP (f : FuncId) : Sum :=
  { f := f, ro := false
    S := fun args os => match args, os with
      | [.pointer (some ⟨0, 0, some 5⟩), .slice (some ⟨1, f1, some s⟩) n c], [⟨[.int .u64 r0, .int .u64 r1, .int .u64 h0, .int .u64 h1, .int .u64 h2], g, e, true⟩, ⟨cells, true, 1, true⟩] =>
        some (.tuple ⟨[]⟩, [⟨polyC r0 r1 (foldP ((num3 h0 h1 h2 + blkN cells f1 n) * (r0 + 18446744073709551616 * r1))), g, e, true⟩, ⟨cells, true, 1, true⟩], [])
      | _, _ => none
    C := fun args os => match args, os with
      | [_, .slice (some ⟨1, f1, some s⟩) n c], [⟨[.int .u64 r0, .int .u64 r1, .int .u64 h0, .int .u64 h1, .int .u64 h2], _, _, _⟩, ⟨cells, _, _, _⟩] => [(Nat.blt 0 n && Nat.ble n 16, true), (polyOk r0 r1 h0 h1 h2 && decide (h2 ≤ 5), true), (pieceB cells f1 s n, true)]
      | _, _ => [] }

theorem pieceSumP_sound {P : Program} {M : Mem} {f : FuncId} (h : (pieceSum f).SoundC P M) : (pieceSumP f).SoundC P M := by
  intro args os v os' ns hs hp
  simp only [pieceSumP] at hs hp
  split at hs
  · rename_i f1 s n c r0 r1 h0 h1 h2 g e cells
    cases hs
    have hk : (Nat.blt 0 n && Nat.ble n 16) = true := hp (_, true) (List.Mem.head _)
    refine h [.pointer (some ⟨0, 0, some 5⟩), .slice (some ⟨1, f1, some s⟩) n c] [⟨[.int .u64 r0, .int .u64 r1, .int .u64 h0, .int .u64 h1, .int .u64 h2], g, e, true⟩, ⟨cells, true, 1, true⟩] _ _ _ ?_ ?_
    · simp only [pieceSum, hk, if_true]
    · intro x hx
      exact hp x (List.Mem.tail _ hx)
  · cases hs

def polySum (f : FuncId) : Sum :=
  { f := f, ro := true
    S := fun args os => match args, os with
      | [.agg ⟨K⟩, .slice (some ⟨0, f1, some s⟩) n c], [⟨cells, true, 1, true⟩] => if isB 32 K then some (.agg ⟨tagF (wd K) cells f1 n⟩, [⟨cells, true, 1, true⟩], []) else none
      | _, _ => none
    C := fun args os => match args, os with
      | [.agg ⟨K⟩, .slice (some ⟨0, f1, some s⟩) n c], [⟨cells, _, _, _⟩] => [(rngB K, true), (dataB cells s f1 n c, true)]
      | _, _ => [] }

theorem polySum_sound {P : Program} {M : Mem} {f : FuncId} {fn : Func} (hf : P.funcs[f]? = some fn) (hn : (fn.name == "runtime.NumGoroutine") = false) (hb : fn.body.isSome = true)
    (h : ∀ (k : Nat → Int) (f1 s n c : Nat) (cells : List Value), (∀ i, IntKind.u8.has (k i)) → dataB cells s f1 n c = true → ACalls P M f [.agg ⟨cellsI .u8 32 k⟩, .slice (some ⟨0, f1, some s⟩) n c] [⟨cells, true, 1, true⟩] (.agg ⟨tagF k cells f1 n⟩) [⟨cells, true, 1, true⟩] []) :
    (polySum f).SoundC P M := by
  refine sumC_sound hf hn hb fun args os v os' ns hs hp => ?_
  simp only [polySum] at hs hp ⊢
  split at hs
  · rename_i K f1 s n c cells
    split at hs
    · rename_i hk
      cases hs
      have h1 : rngB K = true := hp (rngB K, true) (List.Mem.head _)
      have h2 : dataB cells s f1 n c = true := hp (dataB cells s f1 n c, true) (List.Mem.tail _ (List.Mem.head _))
      have := h (wd K) f1 s n c cells (rngB_wd h1) h2
      rw [← isB_eq hk] at this
      exact ⟨this, fun _ => rfl⟩
    · cases hs
  · cases hs

end Go.Num
