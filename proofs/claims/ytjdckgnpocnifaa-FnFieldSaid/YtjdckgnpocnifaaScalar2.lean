/- The contract of ScalarMult; the program's meets it.
   Conditions: none. -/
import Derived.Test.YtjdckgnpocnifaaGA
import Derived.Test.YtjdckgnpocnifaaScalar
open Go.Ab Go.Num
set_option linter.unusedVariables false
set_option linter.unusedSimpArgs false
namespace Go.Proofs.Ytjdckgnpocnifaa

/-- The point's number. -/
def uN (p : Nat → Int) : Int := val 256 p 32 % 57896044618658097711785492504343953926634992332820282019728792003956564819968

def smSum (f : FuncId) : Sum :=
  { f := f, ro := true
    S := fun args os => match args, os with
      | [.agg ⟨A⟩, .agg ⟨B⟩, .int .i64 m], [] => if isB 32 A && isB 32 B then some (.tuple ⟨[.agg ⟨bytesN (smF (wd A) (uN (wd B)) % pF)⟩, .int .i64 (IntKind.i64.wrap (m + 1))]⟩, [], []) else none
      | _, _ => none
    C := fun args _ => match args with
      | [.agg ⟨A⟩, .agg ⟨B⟩, _] => [(rngB A && rngB B, true)]
      | _ => [] }

theorem smSum_sound {M : Mem} {f : FuncId} {fn : Func} (hf : Try.prog.funcs[f]? = some fn) (hn : (fn.name == "runtime.NumGoroutine") = false) (hb : fn.body.isSome = true)
    (h : ∀ (a b : Nat → Int) (m : Int), (∀ i, IntKind.u8.has (a i)) → (∀ i, IntKind.u8.has (b i)) → ACalls Try.prog M f [.agg ⟨cellsI .u8 32 a⟩, .agg ⟨cellsI .u8 32 b⟩, .int .i64 m] []
      (.tuple ⟨[.agg ⟨bytesN (smF a (uN b) % pF)⟩, .int .i64 (IntKind.i64.wrap (m + 1))]⟩) [] []) : (smSum f).SoundC Try.prog M := by
  refine sumC_sound hf hn hb fun args os v os' ns hs hp => ?_
  simp only [smSum] at hs hp ⊢
  split at hs
  · rename_i A B m
    split at hs
    · rename_i hk
      cases hs
      simp only [Bool.and_eq_true] at hk
      have h1 : (rngB A && rngB B) = true := hp (rngB A && rngB B, true) (List.Mem.head _)
      simp only [Bool.and_eq_true] at h1
      have := h (wd A) (wd B) m (rngB_wd h1.1) (rngB_wd h1.2)
      have el : [Value.agg ⟨A⟩, .agg ⟨B⟩, .int .i64 m] = [Value.agg ⟨cellsI .u8 32 (wd A)⟩, .agg ⟨cellsI .u8 32 (wd B)⟩, .int .i64 m] := by rw [← isB_eq hk.1, ← isB_eq hk.2]
      rw [el]
      exact ⟨this, fun _ => rfl⟩
    · cases hs
  · cases hs

theorem SL_eq {k : Nat → Int} (hk : ∀ i, IntKind.u8.has (k i)) : SL k = cellsI .u8 32 (clK k) := cellsI_congr fun i _ => by
  unfold clK
  rw [and248 (hk 0), clamp31 (hk 31)]
theorem PL_eq {p : Nat → Int} (hp : ∀ i, IntKind.u8.has (p i)) : PL p = cellsI .u8 32 (clP p) := cellsI_congr fun i _ => by
  unfold clP
  rw [and127 (hp 31)]

theorem bitS_eq {k : Nat → Int} (hk : ∀ i, IntKind.u8.has (k i)) {n : Nat} (hn : n ≤ 254) : bitS (SL k) n = bitF k n := by
  rw [← bit_clK hk hn, SL_eq hk]
  have hq : ((n : Int)).tdiv 8 = (n : Int) / 8 := Int.tdiv_eq_ediv_of_nonneg (by omega)
  have hm : ((n : Int)).tmod 8 = (n : Int) % 8 := Int.tmod_eq_emod_of_nonneg (by omega)
  have i1 : 0 + (IntKind.i64.wrap ((n : Int).tdiv 8)).toNat * 1 = n / 8 := by rw [hq, w64 (by omega) (by omega)]; omega
  have i2 : ((n : Int).tmod 8).toNat = n % 8 := by rw [hm]; omega
  unfold bitS bitP
  rw [i1, i2, atC_cells (by omega)]
  simp only [vint]
  have hc := has_u8 (clK_range hk (n / 8))
  have hp : (0 : Int) < 2 ^ (n % 8) := Int.pow_pos (by decide)
  have hr : IntKind.u8.has (clK k (n / 8) / 2 ^ (n % 8)) := by
    refine ⟨Int.ediv_nonneg hc.1 (by omega), ?_⟩
    have := Int.ediv_le_self (2 ^ (n % 8)) hc.1
    exact Int.le_trans this hc.2
  rw [and1 hr]
  rw [Bool.eq_iff_iff]
  simp

theorem uE_bd {p : Nat → Int} (hp : ∀ i, IntKind.u8.has (p i)) : Bd 4503599627370496 (limbs (val 256 (wd (PL p)) 32)) ∧ Bd RB (uE p) ∧ rngB (PL p) = true := by
  rw [uE, PL_eq hp]
  have hw : ∀ i, IntKind.u8.has (wd (cellsI .u8 32 (clP p)) i) := rngB_wd (rngB_cellsI (clP_range hp))
  have hl := limbs_bd (v256_range hw).1 (v256_range hw).2
  exact ⟨hl, carE_rb (bd_wd (bd_mono (by omega) hl)), rngB_cellsI (clP_range hp)⟩

theorem uE_eqp {p : Nat → Int} (hp : ∀ i, IntKind.u8.has (p i)) : Eqp (val B51 (uE p) 5) (uN p) := by
  have := carE_eqp (wd (cellsI .u64 5 (limbs (val 256 (wd (PL p)) 32))))
  rw [wd_val, limbs_val] at this
  unfold uE uN
  refine this.trans ?_
  rw [PL_eq hp, wd_val, clP_val hp]
  exact .refl _

theorem zeroE_bd : Bd RB zeroE := fun i _ => by unfold zeroE RB; omega

theorem s0E_bd {p : Nat → Int} (hp : ∀ i, IntKind.u8.has (p i)) : (s0E p).Bd :=
  ⟨bd_wd oneE_bd, bd_wd zeroE_bd, bd_wd (uE_bd hp).2.1, bd_wd oneE_bd⟩

theorem sm15 (M : Mem) : (smSum 15).SoundC Try.prog M := smSum_sound Try.func15 (by kernel_rfl) (by kernel_rfl) fun k p m hk hp => by
  obtain ⟨l1, l2, l3⟩ := uE_bd hp
  have hb : (finE k p).Bd := ladE_bd (bd_wd l2) (s0E_bd hp) 255
  obtain ⟨b1, b2, b3, b4⟩ := hb
  have hpw := powE_bd (bd_wd b2)
  have hres : Bd RB (resE k p) := mulE_bd (bd_wd b1) (bd_wd hpw)
  have h0 := acalls_of_evFU (ovX_ok _ _) (L15b_sound M) mix Try.func15 (hook15_ok M) (r15 M k p m) (by
    refine held_cons l3 (held_cons (bd_le (by omega) l1) (held_cons rfl (held_cons (by rw [SL_eq hk]; exact rngB_cellsI (clK_range hk)) (held_cons ?_ (held_cons (bd_le (Int.le_refl _) b2) (held_cons ?_ (held_one (bd_le (by decide) hres))))))))
    · rw [bd_le (Int.le_refl _) l2, bd_le (Int.le_refl _) oneE_bd, bd_le (Int.le_refl _) zeroE_bd]; rfl
    · rw [bd_le (Int.le_refl _) b1, bd_le (Int.le_refl _) hpw]; rfl)
  have hl := (ladE_eqp (b := bitS (SL k)) (u := wd (cellsI .u64 5 (uE p))) (s := s0E p) (by
      simp only [pt, s0E, wd_val, Pt.mk.injEq]
      exact ⟨by decide +kernel, by decide +kernel⟩) (by
      refine ⟨?_, ?_⟩
      · exact .refl _
      · simp only [pt, s0E, wd_val]
        have : val B51 oneE 5 = 1 := by decide +kernel
        rw [this]
        exact .refl _) 255).1
  have hl2 : EqP (pt (finE k p).x2 (finE k p).z2) (lad (bitF k) (uN p) 255).1 := by
    have e := lad_congr (b := bitS (SL k)) (c := bitF k) (u := val B51 (wd (cellsI .u64 5 (uE p))) 5) (fun n hn => bitS_eq hk hn) 255
    rw [e] at hl
    refine EqP_trans hl (lad_eqp ?_ 255).1
    rw [wd_val]
    exact uE_eqp hp
  have hv : val B51 (wd (cellsI .u64 5 (resE k p))) 5 % pF = smF k (uN p) % pF := by
    rw [wd_val]
    refine Eqp.mod ?_
    unfold resE smF
    refine (mulE_eqp _ _).trans ?_
    rw [wd_val, wd_val]
    refine Eqp.mul hl2.1 ((powE_eqp _).trans (pwr_eqp ?_ 255))
    rw [wd_val]
    exact hl2.2
  rw [hv] at h0
  exact h0

end Go.Proofs.Ytjdckgnpocnifaa
