/- The specification's Poly1305 as numbers: the masked half of the key, the bytes of the tag.
   Conditions: bytes in range. -/
import Derived.Test.YtgnbmjhljlbkhaaGSpecPoly3
import Derived.Test.YtgnbmjhljlbkhaaGClamp
set_option linter.unusedVariables false
namespace Go.Num
open Go.Ab

theorem and_step (x m : Nat) : x &&& m = ((x % 256) &&& (m % 256)) + 256 * ((x / 256) &&& (m / 256)) := by
  have h1 := Nat.and_mod_two_pow (a := x) (b := m) (n := 8)
  have h2 := Nat.and_div_two_pow (a := x) (b := m) (n := 8)
  have e : (2 : Nat) ^ 8 = 256 := by decide
  rw [e] at h1 h2
  omega

theorem nbyte {P : Nat → Prop} (h : ∀ a : Fin 256, P a.val) {x : Nat} (hx : x < 256) : P x := h ⟨x, hx⟩
theorem n255 {x : Nat} (hx : x < 256) : x &&& 255 = x := nbyte (P := fun x => x &&& 255 = x) (by decide +kernel) hx
theorem n15 {x : Nat} (hx : x < 256) : x &&& 15 = x % 16 := nbyte (P := fun x => x &&& 15 = x % 16) (by decide +kernel) hx
theorem n252 {x : Nat} (hx : x < 256) : x &&& 252 = x - x % 4 := nbyte (P := fun x => x &&& 252 = x - x % 4) (by decide +kernel) hx

def w8n (a b c d e f g h : Nat) : Nat := a + 256 * (b + 256 * (c + 256 * (d + 256 * (e + 256 * (f + 256 * (g + 256 * h))))))

theorem and_cons {b x m0 m : Nat} (hb : b < 256) (hm : m0 < 256) : (b + 256 * x) &&& (m0 + 256 * m) = (b &&& m0) + 256 * (x &&& m) := by
  rw [and_step, show (b + 256 * x) % 256 = b by omega, show (b + 256 * x) / 256 = x by omega, show (m0 + 256 * m) % 256 = m0 by omega, show (m0 + 256 * m) / 256 = m by omega]

theorem mask0 {a b c d e f g h : Nat} (ha : a < 256) (hb : b < 256) (hc : c < 256) (hd : d < 256) (he : e < 256) (hf : f < 256) (hg : g < 256) (hh : h < 256) :
    w8n a b c d e f g h &&& 1152921487695413247 = w8n a b c (d % 16) (e - e % 4) f g (h % 16) := by
  rw [show 1152921487695413247 = w8n 255 255 255 15 252 255 255 15 by decide]
  unfold w8n
  rw [and_cons ha (by decide), and_cons hb (by decide), and_cons hc (by decide), and_cons hd (by decide), and_cons he (by decide), and_cons hf (by decide), and_cons hg (by decide), n255 ha, n255 hb, n255 hc, n15 hd, n252 he, n255 hf, n255 hg, n15 hh]
theorem mask1 {a b c d e f g h : Nat} (ha : a < 256) (hb : b < 256) (hc : c < 256) (hd : d < 256) (he : e < 256) (hf : f < 256) (hg : g < 256) (hh : h < 256) :
    w8n a b c d e f g h &&& 1152921487695413244 = w8n (a - a % 4) b c (d % 16) (e - e % 4) f g (h % 16) := by
  rw [show 1152921487695413244 = w8n 252 255 255 15 252 255 255 15 by decide]
  unfold w8n
  rw [and_cons ha (by decide), and_cons hb (by decide), and_cons hc (by decide), and_cons hd (by decide), and_cons he (by decide), and_cons hf (by decide), and_cons hg (by decide), n252 ha, n255 hb, n255 hc, n15 hd, n252 he, n255 hf, n255 hg, n15 hh]

def w8i (a b c d e f g h : Int) : Int := a + 256 * (b + 256 * (c + 256 * (d + 256 * (e + 256 * (f + 256 * (g + 256 * h))))))
theorem val8 (t : Nat → Int) : val 256 t 8 = w8i (t 0) (t 1) (t 2) (t 3) (t 4) (t 5) (t 6) (t 7) := by
  simp only [val, w8i, Int.reducePow]
  omega

theorem and_w8 {a b c d e f g h : Int} (ha : 0 ≤ a ∧ a ≤ 255) (hb : 0 ≤ b ∧ b ≤ 255) (hc : 0 ≤ c ∧ c ≤ 255) (hd : 0 ≤ d ∧ d ≤ 255) (he : 0 ≤ e ∧ e ≤ 255) (hf : 0 ≤ f ∧ f ≤ 255) (hg : 0 ≤ g ∧ g ≤ 255) (hh : 0 ≤ h ∧ h ≤ 255) :
    bits .and .u64 (w8i a b c d e f g h) 1152921487695413247 = w8i a b c (d % 16) (e - e % 4) f g (h % 16) ∧ bits .and .u64 (w8i a b c d e f g h) 1152921487695413244 = w8i (a - a % 4) b c (d % 16) (e - e % 4) f g (h % 16) := by
  obtain ⟨a, rfl⟩ := Int.eq_ofNat_of_zero_le ha.1
  obtain ⟨b, rfl⟩ := Int.eq_ofNat_of_zero_le hb.1
  obtain ⟨c, rfl⟩ := Int.eq_ofNat_of_zero_le hc.1
  obtain ⟨d, rfl⟩ := Int.eq_ofNat_of_zero_le hd.1
  obtain ⟨e, rfl⟩ := Int.eq_ofNat_of_zero_le he.1
  obtain ⟨f, rfl⟩ := Int.eq_ofNat_of_zero_le hf.1
  obtain ⟨g, rfl⟩ := Int.eq_ofNat_of_zero_le hg.1
  obtain ⟨h, rfl⟩ := Int.eq_ofNat_of_zero_le hh.1
  have e0 : w8i (a : Int) b c d e f g h = ((w8n a b c d e f g h : Nat) : Int) := by unfold w8i w8n; omega
  have hw : w8n a b c d e f g h < 18446744073709551616 := by unfold w8n; omega
  rw [e0]
  constructor
  · rw [show (1152921487695413247 : Int) = ((1152921487695413247 : Nat) : Int) from rfl, bits_and_u64_nat _ _ hw (by omega), mask0 (by omega) (by omega) (by omega) (by omega) (by omega) (by omega) (by omega) (by omega)]
    unfold w8i w8n
    omega
  · rw [show (1152921487695413244 : Int) = ((1152921487695413244 : Nat) : Int) from rfl, bits_and_u64_nat _ _ hw (by omega), mask1 (by omega) (by omega) (by omega) (by omega) (by omega) (by omega) (by omega) (by omega)]
    unfold w8i w8n
    omega

/-- A digit of r, as the text takes it. -/
def rDig (k : Nat → Int) (i : Nat) : Int :=
  bif Nat.beq (i % 4) 3 then (IntKind.i64.wrap (k i)).tmod 16 else bif Nat.beq (i % 4) 0 && Nat.blt 0 i then IntKind.i64.wrap (IntKind.i64.wrap (k i) - (IntKind.i64.wrap (k i)).tmod 4) else IntKind.i64.wrap (k i)
def rD (k : Nat → Int) (i : Nat) : Int := bif Nat.beq (i % 4) 3 then k i % 16 else bif Nat.beq (i % 4) 0 && Nat.blt 0 i then k i - k i % 4 else k i

theorem rDig_eq {k : Nat → Int} (hk : ∀ i, IntKind.u8.has (k i)) (i : Nat) : rDig k i = rD k i ∧ 0 ≤ rD k i ∧ rD k i < 256 := by
  have h := has_u8 (hk i)
  unfold rDig rD
  rw [wrap_i64 (n := k i) (by omega) (by omega)]
  cases Nat.beq (i % 4) 3 <;> cases Nat.beq (i % 4) 0 && Nat.blt 0 i <;> simp only [cond_true, cond_false]
  · exact ⟨trivial, by omega⟩
  · rw [Int.tmod_eq_emod_of_nonneg h.1, wrap_i64 (by omega) (by omega)]; exact ⟨rfl, by omega⟩
  · rw [Int.tmod_eq_emod_of_nonneg h.1]; exact ⟨rfl, by omega⟩
  · rw [Int.tmod_eq_emod_of_nonneg h.1]; exact ⟨rfl, by omega⟩

theorem rDig_val {k : Nat → Int} (hk : ∀ i, IntKind.u8.has (k i)) : Dg 256 16 (rDig k) ∧ val 256 (rDig k) 16 = rK k := by
  refine ⟨fun i _ => by rw [(rDig_eq hk i).1]; exact (rDig_eq hk i).2, ?_⟩
  rw [val_congr fun i _ => (rDig_eq hk i).1]
  have hs : val 256 (rD k) (8 + 8) = _ := val_split (m := 8) (n := 8)
  rw [show 16 = 8 + 8 from rfl, hs, val8, val8]
  have u := fun i => has_u8 (hk i)
  unfold rK rK0 rK1 W8
  rw [val8, val8]
  rw [(and_w8 (u _) (u _) (u _) (u _) (u _) (u _) (u _) (u _)).1, (and_w8 (u _) (u _) (u _) (u _) (u _) (u _) (u _) (u _)).2, show (256 : Int) ^ 8 = 18446744073709551616 by decide]
  rfl

/-- The tag's bytes ahead of their carrying. -/
def endS (acc k : Nat → Int) (i : Nat) : Int := bif Nat.blt i 16 then IntKind.i64.wrap (acc i + IntKind.i64.wrap (k (16 + i))) else acc i

theorem endS_eq {acc k : Nat → Int} (ha : Dg 256 17 acc) (hk : ∀ i, IntKind.u8.has (k i)) {i : Nat} (hi : i < 17) : endS acc k i = acc i + ext (fun i => k (16 + i)) 16 i ∧ 0 ≤ endS acc k i ∧ endS acc k i ≤ 512 := by
  have := ha i hi; have := has_u8 (hk (16 + i))
  simp only [endS, ext]
  cases Nat.blt i 16 <;> simp only [cond_true, cond_false]
  · exact ⟨by omega, by omega, by omega⟩
  · rw [wrap_i64 (n := k (16 + i)) (by omega) (by omega), wrap_i64 (by omega) (by omega)]
    exact ⟨rfl, by omega, by omega⟩

theorem endS_bytes {acc k : Nat → Int} {A : Int} (ha : Dg 256 17 acc) (hk : ∀ i, IntKind.u8.has (k i)) (hA : val 256 acc 17 = A) (h0 : 0 ≤ A ∧ A < P130) {t : Nat → Int} (ht : ∀ i, i < 17 → t i = endS acc k i) {i : Nat} (hi : i < 16) :
    IntKind.u8.wrap (dig 256 (ext t 17) i) = (A + (W8 k 16 + 18446744073709551616 * W8 k 24)) / 256 ^ i % 256 := by
  have hd := dig_range (B := 256) (by decide) (ext t 17) i
  have e1 : IntKind.u8.wrap (dig 256 (ext t 17) i) = dig 256 (ext t 17) i := by rw [wrap_u8]; omega
  rw [e1, val_digit (B := 256) (by decide) (d := dig 256 (ext t 17)) (k := i) (n := 17) (by omega) fun i _ => dig_range (by decide) _ _]
  have hv : val 256 (ext t 17) 17 = A + (W8 k 16 + 18446744073709551616 * W8 k 24) := by
    rw [val_ext _ (Nat.le_refl _), val_congr fun i hi => (ht i hi).trans (endS_eq ha hk hi).1, val_add, hA, val_ext _ (by omega)]
    have hs : val 256 (fun i => k (16 + i)) (8 + 8) = _ := val_split (m := 8) (n := 8)
    rw [show 16 = 8 + 8 from rfl, hs, show (256 : Int) ^ 8 = 18446744073709551616 by decide]
    have e : val 256 (fun i => k (16 + (8 + i))) 8 = W8 k 24 := val_congr fun i _ => by rw [show 16 + (8 + i) = 24 + i by omega]
    rw [e]
    rfl
  have w1 := W8_range hk 16
  have w2 := W8_range hk 24
  have e17 : (256 : Int) ^ 17 = 87112285931760246646623899502532662132736 := by decide
  have h1 : A < 1361129467683753853853498429727072845819 := h0.2
  have hm : (A + (W8 k 16 + 18446744073709551616 * W8 k 24)) % 87112285931760246646623899502532662132736 = A + (W8 k 16 + 18446744073709551616 * W8 k 24) := Int.emod_eq_of_lt (by omega) (by omega)
  rw [(car_out (B := 256) (by decide)).2, hv, e17, hm]

end Go.Num
