/- The pieces of both parsers, of the program and of the specification, and of the laws' comparisons.
   Conditions: the variable errShape is as the program's text lays it. -/
import Derived.Test.YthflpgckojnbmaaDoorLaid
import Derived.Test.YthflpgckojnbmaaDoorToS
import Derived.Test.YthflpgckojnbmaaDoorSlices
import Derived.Test.YthflpgckojnbmaaDoorGA
open Go.Ab Go.Num
set_option linter.unusedVariables false
set_option linter.unusedSimpArgs false
namespace Go.Proofs.YthflpgckojnbmaaDoor

def no (n : Nat) : List Bool := List.replicate n false
noncomputable def I38 (M : Mem) : Sum := inlC Tryd.prog M [] [] 1000 38 Tryd.f38 []
theorem I38_s (M : Mem) : (I38 M).SoundC Tryd.prog M := inlC_sound nilC mix Tryd.func38 (by kernel_rfl) (by kernel_rfl)
/-- The head is looked at: right (b false), or wrong in the length (sym 10) or the bytes. -/
noncomputable def I25 (M : Mem) (sym : List Nat) (b : Bool) : Sum := inlC Tryd.prog M [I38 M] sym 1000 25 Tryd.f25 [b]
theorem I25_s (M : Mem) (sym : List Nat) (b : Bool) : (I25 M sym b).SoundC Tryd.prog M := inlC_sound (consC (I38_s M) nilC) mix Tryd.func25 (by kernel_rfl) (by kernel_rfl)
noncomputable def I26 (M : Mem) : Sum := inlC Tryd.prog M [] [] 1000 26 Tryd.f26 []
theorem I26_s (M : Mem) : (I26 M).SoundC Tryd.prog M := inlC_sound nilC mix Tryd.func26 (by kernel_rfl) (by kernel_rfl)
noncomputable def I27 (M : Mem) : Sum := inlC Tryd.prog M [] [] 1000 27 Tryd.f27 []
theorem I27_s (M : Mem) : (I27 M).SoundC Tryd.prog M := inlC_sound nilC mix Tryd.func27 (by kernel_rfl) (by kernel_rfl)
/-- The specification looks at the head. -/
noncomputable def I21 (M : Mem) (sym : List Nat) (orc : List Bool) : Sum := inlC Tryd.prog M [] sym 1000 21 Tryd.f21 orc
theorem I21_s (M : Mem) (sym : List Nat) (orc : List Bool) : (I21 M sym orc).SoundC Tryd.prog M := inlC_sound nilC mix Tryd.func21 (by kernel_rfl) (by kernel_rfl)
noncomputable def I22 (M : Mem) : Sum := inlC Tryd.prog M [] [] 1000 22 Tryd.f22 []
theorem I22_s (M : Mem) : (I22 M).SoundC Tryd.prog M := inlC_sound nilC mix Tryd.func22 (by kernel_rfl) (by kernel_rfl)
noncomputable def I23 (M : Mem) : Sum := inlC Tryd.prog M [] [] 1000 23 Tryd.f23 []
theorem I23_s (M : Mem) : (I23 M).SoundC Tryd.prog M := inlC_sound nilC mix Tryd.func23 (by kernel_rfl) (by kernel_rfl)
noncomputable def I30 (M : Mem) : Sum := inlC Tryd.prog M [] [] 1000 30 Tryd.f30 []
theorem I30_s (M : Mem) : (I30 M).SoundC Tryd.prog M := inlC_sound nilC mix Tryd.func30 (by kernel_rfl) (by kernel_rfl)
noncomputable def I28 (M : Mem) : Sum := inlC Tryd.prog M [] [16] 1000 28 Tryd.f28 (no 24)
theorem I28_s (M : Mem) : (I28 M).SoundC Tryd.prog M := inlC_sound nilC mix Tryd.func28 (by kernel_rfl) (by kernel_rfl)
noncomputable def I29 (M : Mem) : Sum := inlC Tryd.prog M [] [16] 1000 29 Tryd.f29 (no 32)
theorem I29_s (M : Mem) : (I29 M).SoundC Tryd.prog M := inlC_sound nilC mix Tryd.func29 (by kernel_rfl) (by kernel_rfl)
noncomputable def I31 (M : Mem) : Sum := inlC Tryd.prog M [] [16] 1000 31 Tryd.f31 (no 48)
theorem I31_s (M : Mem) : (I31 M).SoundC Tryd.prog M := inlC_sound nilC mix Tryd.func31 (by kernel_rfl) (by kernel_rfl)
noncomputable def I32 (M : Mem) : Sum := inlC Tryd.prog M [] [16] 1000 32 Tryd.f32 (no 28)
theorem I32_s (M : Mem) : (I32 M).SoundC Tryd.prog M := inlC_sound nilC mix Tryd.func32 (by kernel_rfl) (by kernel_rfl)
noncomputable def I33 (M : Mem) : Sum := inlC Tryd.prog M [] [16] 1000 33 Tryd.f33 (no 16)
theorem I33_s (M : Mem) : (I33 M).SoundC Tryd.prog M := inlC_sound nilC mix Tryd.func33 (by kernel_rfl) (by kernel_rfl)
noncomputable def I9 (M : Mem) : Sum := inlC Tryd.prog M [I28 M, I29 M] [9] 1000 9 Tryd.f9 [false]
theorem I9_s (M : Mem) : (I9 M).SoundC Tryd.prog M := inlC_sound (consC (I28_s M) (consC (I29_s M) nilC)) mix Tryd.func9 (by kernel_rfl) (by kernel_rfl)
noncomputable def I13 (M : Mem) : Sum := inlC Tryd.prog M [I29 M, I31 M, I32 M, I33 M] [9] 1000 13 Tryd.f13 [false]
theorem I13_s (M : Mem) : (I13 M).SoundC Tryd.prog M := inlC_sound (consC (I29_s M) (consC (I31_s M) (consC (I32_s M) (consC (I33_s M) nilC)))) mix Tryd.func13 (by kernel_rfl) (by kernel_rfl)

/-- The parsers, of heads that are foretold. -/
noncomputable def I6 (M : Mem) (sym : List Nat) (orc : List Bool) : Sum := inlC Tryd.prog M [I21 M sym orc, I22 M, I23 M] [] 1000 6 Tryd.f6 []
theorem I6_s (M : Mem) (sym : List Nat) (orc : List Bool) : (I6 M sym orc).SoundC Tryd.prog M := inlC_sound (consC (I21_s M sym orc) (consC (I22_s M) (consC (I23_s M) nilC))) mix Tryd.func6 (by kernel_rfl) (by kernel_rfl)
noncomputable def I8 (M : Mem) (sym : List Nat) (b : Bool) : Sum := inlC Tryd.prog M [I25 M sym b, isSum, I26 M, I27 M] [] 1000 8 Tryd.f8 []
theorem I8_s (M : Mem) (sym : List Nat) (b : Bool) : (I8 M sym b).SoundC Tryd.prog M := inlC_sound (consC (I25_s M sym b) (consC (isSum_sound M) (consC (I26_s M) (consC (I27_s M) nilC)))) mix Tryd.func8 (by kernel_rfl) (by kernel_rfl)
noncomputable def I11 (M : Mem) (sym : List Nat) (orc : List Bool) : Sum := inlC Tryd.prog M [I21 M sym orc, I22 M, I23 M, I30 M] [] 1000 11 Tryd.f11 []
theorem I11_s (M : Mem) (sym : List Nat) (orc : List Bool) : (I11 M sym orc).SoundC Tryd.prog M := inlC_sound (consC (I21_s M sym orc) (consC (I22_s M) (consC (I23_s M) (consC (I30_s M) nilC)))) mix Tryd.func11 (by kernel_rfl) (by kernel_rfl)
noncomputable def I12 (M : Mem) (sym : List Nat) (b : Bool) : Sum := inlC Tryd.prog M [I25 M sym b, isSum, I26 M, I27 M] [] 1000 12 Tryd.f12 []
theorem I12_s (M : Mem) (sym : List Nat) (b : Bool) : (I12 M sym b).SoundC Tryd.prog M := inlC_sound (consC (I25_s M sym b) (consC (isSum_sound M) (consC (I26_s M) (consC (I27_s M) nilC)))) mix Tryd.func12 (by kernel_rfl) (by kernel_rfl)

/-- What law 3 calls. -/
noncomputable def L3 (M : Mem) (s6 : List Nat) (o6 : List Bool) (s8 : List Nat) (b : Bool) : List Sum := [toSum M 7, I6 M s6 o6, I8 M s8 b, I9 M, eqsSum10]
theorem L3_sound (M : Mem) (s6 : List Nat) (o6 : List Bool) (s8 : List Nat) (b : Bool) : ∀ s ∈ L3 M s6 o6 s8 b, s.SoundC Tryd.prog M := consC (toS_S M) (consC (I6_s M s6 o6) (consC (I8_s M s8 b) (consC (I9_s M) (consC (eqsSum10_sound M) nilC))))
noncomputable def L4 (M : Mem) (s6 : List Nat) (o6 : List Bool) (s8 : List Nat) (b : Bool) : List Sum := [toSum M 7, I11 M s6 o6, I12 M s8 b, I13 M, eqsSum10]
theorem L4_sound (M : Mem) (s6 : List Nat) (o6 : List Bool) (s8 : List Nat) (b : Bool) : ∀ s ∈ L4 M s6 o6 s8 b, s.SoundC Tryd.prog M := consC (toS_S M) (consC (I11_s M s6 o6) (consC (I12_s M s8 b) (consC (I13_s M) (consC (eqsSum10_sound M) nilC))))

/-! ### What evaluations ask for -/
def neP (l : List Int) : Pins := l.map fun a => (a != a, false)
theorem neP_held (l : List Int) : Held (neP l) := fun y hy => by
  obtain ⟨a, _, rfl⟩ := List.mem_map.1 hy
  simp
/-- The specification's look at the head: the bytes up to the first wrong one. -/
def headS (k : Int) (x : Nat → Int) : Nat → Pins
  | 0 => [(x 0 == k, false)]
  | 1 => [(x 0 == k, true), (x 1 == 0, false)]
  | 2 => [(x 0 == k, true), (x 1 == 0, true), (x 2 == 0, false)]
  | 3 => [(x 0 == k, true), (x 1 == 0, true), (x 2 == 0, true), (x 3 == 0, false)]
  | _ => [(x 0 == k, true), (x 1 == 0, true), (x 2 == 0, true), (x 3 == 0, true)]
def headO : Nat → List Bool
  | 0 => [false]
  | 1 => [true, false]
  | 2 => [true, true, false]
  | 3 => [true, true, true, false]
  | _ => [true, true, true, true]
/-- The program's. -/
def headI (k : Int) (x : Nat → Int) (b : Bool) : Pins := [(!((strB (cellsI .u8 4 x)).toList == (strB [.int .u8 k, .int .u8 0, .int .u8 0, .int .u8 0]).toList), b)]
noncomputable def isSame (ab ao : Nat) : Pins := isSum.C [.iface 93 (.pointer (some ⟨ab, ao, none⟩)), .iface 93 (.pointer (some ⟨ab, ao, none⟩))] []
noncomputable def isNil (ab ao : Nat) : Pins := isSum.C [.nilIface, .iface 93 (.pointer (some ⟨ab, ao, none⟩))] []
def headR (k : Int) (x : Nat → Int) : Bool := x 0 == k && x 1 == 0 && x 2 == 0 && x 3 == 0

theorem headI_eq {k : Int} (hk : IntKind.u8.has k) {x : Nat → Int} (hx : ∀ i, i < 4 → IntKind.u8.has (x i)) : ((strB (cellsI .u8 4 x)).toList == (strB [.int .u8 k, .int .u8 0, .int .u8 0, .int .u8 0]).toList) = headR k x := by
  have z : IntKind.u8.has 0 := ⟨by decide, by decide⟩
  have hv : ∀ i, i < 4 → IntKind.u8.has (vint (atC [.int .u8 k, .int .u8 0, .int .u8 0, .int .u8 0] i)) := fun i hi => by
    match i, hi with
    | 0, _ => exact hk
    | 1, _ => exact z
    | 2, _ => exact z
    | 3, _ => exact z
  have hu : ∀ i, i < 4 → vint (atC (cellsI .u8 4 x) i) = x i := fun i hi => by
    match i, hi with
    | 0, _ => rfl
    | 1, _ => rfl
    | 2, _ => rfl
    | 3, _ => rfl
  rw [Bool.eq_iff_iff, strB_eq (us := cellsI .u8 4 x) (vs := [.int .u8 k, .int .u8 0, .int .u8 0, .int .u8 0]) rfl (fun i hi => by rw [hu i hi]; exact hx i hi) hv]
  constructor
  · intro h
    have h0 : x 0 = k := h 0 (by rw [cellsI_length]; omega)
    have h1 : x 1 = 0 := h 1 (by rw [cellsI_length]; omega)
    have h2 : x 2 = 0 := h 2 (by rw [cellsI_length]; omega)
    have h3 : x 3 = 0 := h 3 (by rw [cellsI_length]; omega)
    simp [headR, h0, h1, h2, h3]
  · intro h
    simp only [headR, Bool.and_eq_true, beq_iff_eq] at h
    intro i hi
    match i, hi with
    | 0, _ => exact h.1.1.1
    | 1, _ => exact h.1.1.2
    | 2, _ => exact h.1.2
    | 3, _ => exact h.2
theorem headI_held {k : Int} (hk : IntKind.u8.has k) {x : Nat → Int} (hx : ∀ i, i < 4 → IntKind.u8.has (x i)) {b : Bool} (h : headR k x = !b) : Held (headI k x b) :=
  held_one (by rw [headI_eq hk hx, h, Bool.not_not])
theorem headS_good {k : Int} {x : Nat → Int} (h : headR k x = true) : Held (headS k x 4) := by
  simp only [headR, Bool.and_eq_true] at h
  exact held_cons h.1.1.1 (held_cons h.1.1.2 (held_cons h.1.2 (held_one h.2)))
/-- A wrong head is wrong somewhere first. -/
theorem headS_bad {k : Int} {x : Nat → Int} (h : headR k x = false) : Held (headS k x 0) ∨ Held (headS k x 1) ∨ Held (headS k x 2) ∨ Held (headS k x 3) := by
  cases h0 : x 0 == k with
  | false => exact .inl (held_one h0)
  | true => cases h1 : x 1 == 0 with
    | false => exact .inr (.inl (held_cons h0 (held_one h1)))
    | true => cases h2 : x 2 == 0 with
      | false => exact .inr (.inr (.inl (held_cons h0 (held_cons h1 (held_one h2)))))
      | true => cases h3 : x 3 == 0 with
        | false => exact .inr (.inr (.inr (held_cons h0 (held_cons h1 (held_cons h2 (held_one h3))))))
        | true => simp [headR, h0, h1, h2, h3] at h

def ob (X : List Value) : AObj := ⟨X, true, 1, true⟩
def eqP (n : Nat) (A B : List Value) : Pins := [(sliceB (ob A) n 0 n, true), (sliceB (ob B) n 0 n, true), (!(Nat.beq n n && eqB (cut (ob A) 0 n) (cut (ob B) 0 n)), false)]
theorem eqP_held {n : Nat} {x : Nat → Int} (hn : n ≤ 2097152) : Held (eqP n (cellsI .u8 n x) (cellsI .u8 n x)) := by
  have h : sliceB (ob (cellsI .u8 n x)) n 0 n = true := sliceB_cells (Nat.le_refl n) (by omega)
  refine held_cons h (held_cons h (held_one ?_))
  show (!(Nat.beq n n && eqB (cut ⟨cellsI .u8 n x, true, 1, true⟩ 0 n) (cut ⟨cellsI .u8 n x, true, 1, true⟩ 0 n))) = false
  rw [cutS_cells (Nat.le_refl n), Num.eqB_cells, Nat.beq_refl]
  rfl
theorem words_ne {x : Nat → Int} (hx : ∀ i, i < 8 → IntKind.u8.has (x i)) : (wordI (x 4) (x 5) (x 6) (x 7) != wordS (x 4) (x 5) (x 6) (x 7)) = false := by
  rw [wordI_eq (hx 4 (by omega)) (hx 5 (by omega)) (hx 6 (by omega)) (hx 7 (by omega)), wordS_eq (hx 4 (by omega)) (hx 5 (by omega)) (hx 6 (by omega)) (hx 7 (by omega))]
  simp

/-! ### Arguments -/
/-- Its bytes can be read, and are bytes. -/
def RoS (M : Mem) (b off n : Nat) : Prop := ∀ i, i < n → roB .u8 M b (off + i) = true ∧ IntKind.u8.has (roN M b off i)
theorem roS_all {M : Mem} {b off n : Nat} (h : RoS M b off n) (hn : n ≤ 281474976710656) : roAll M b off n = true := roAll_iff.2 ⟨hn, fun i hi => (h i hi).1⟩
set_option maxRecDepth 100000 in
theorem arg22 {W : World} {base : Nat} {tbl : Nat → Nat → Option Value} (hr : RoOk tbl W) {v : Value} (h0 : Value.okWide Tryd.prog W .any base 22 v) {H : Type} {enc : TypeId × Value → H} {d : DataW H} {p : List MemPlace} (hd : DataW.Trod enc Tryd.prog W 0 (fun _ => true) true 22 v d p) :
    v = .slice none 0 0 ∨ ∃ b off n c, v = .slice (some ⟨b, off, none⟩) n c ∧ RoS (memL tbl W) b off n := by
  rcases slice_arg (e := 5) Tryd.underlying22 Tryd.underlying5 (by kernel_rfl) h0 hd with rfl | ⟨b, off, n, c, x, rfl, hc, _, hx⟩
  · exact .inl rfl
  · refine .inr ⟨b, off, n, c, rfl, fun i hi => ?_⟩
    have h1 := hx.2 i hi
    have h2 := memL_memOf hr h1
    unfold roB roN
    rw [h2]
    exact ⟨by simp [isI], hx.1 i⟩

end Go.Proofs.YthflpgckojnbmaaDoor
