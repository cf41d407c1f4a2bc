/- The specification's ladder, by recursion; its ScalarMult.
   Conditions: none. -/
import Derived.Test.YtjdckgnpocnifaaSpecInv
open Go.Ab Go.Num
set_option linter.unusedVariables false
set_option linter.unusedSimpArgs false
namespace Go.Proofs.Ytjdckgnpocnifaa

def DgP (p : Nat → Int) : Prop := Dg 65536 16 p ∧ Dg 65536 16 (hi16 p)
/-- A point's numbers. -/
def ptD (p : Nat → Int) : Pt := ⟨val D16 p 16, val D16 (hi16 p) 16⟩

def dblD (p : Nat → Int) : Nat → Int := join16 (dDX p) (dDZ p)
def sumD (p q x : Nat → Int) : Nat → Int := join16 (dSX p q) (dSZ p q x)

theorem join_lo (x z : Nat → Int) : ∀ i, i < 16 → join16 x z i = x i := fun i hi => by
  have : Nat.blt i 16 = true := Nat.blt_eq.mpr hi
  simp [join16, this]
theorem join_hi (x z : Nat → Int) : hi16 (join16 x z) = z := funext fun i => by
  have : Nat.blt (16 + i) 16 = false := by rw [Bool.eq_false_iff]; exact fun e => by have := Nat.blt_eq.mp e; omega
  simp [hi16, join16, this]
theorem dg_congr {x y : Nat → Int} (h : ∀ i, i < 16 → x i = y i) (hy : Dg 65536 16 y) : Dg 65536 16 x := fun i hi => by rw [h i hi]; exact hy i hi
theorem join_dg {x z : Nat → Int} (hx : Dg 65536 16 x) (hz : Dg 65536 16 z) : DgP (join16 x z) := ⟨dg_congr (join_lo x z) hx, by rw [join_hi]; exact hz⟩
theorem join_pt (x z : Nat → Int) : ptD (join16 x z) = ⟨val D16 x 16, val D16 z 16⟩ := by
  simp only [ptD, join_hi, Pt.mk.injEq, and_true]
  exact val_congr (join_lo x z)

theorem dA_dg {x z : Nat → Int} (h : Dg 65536 16 x) (k : Dg 65536 16 z) : Dg 65536 16 (dA x z) := pass3_dg fun i hi => by
  have := dgw h i hi; have := dgw k i hi
  unfold Wd
  omega
theorem dB_dg {x z : Nat → Int} (h : Dg 65536 16 x) (k : Dg 65536 16 z) : Dg 65536 16 (dB x z) := pass3_dg fun i hi => by
  have := dgw h i hi; have := dgw k i hi
  have : 130996 ≤ c4 i ∧ c4 i ≤ 131070 := by unfold c4; cases Nat.beq i 0 <;> simp
  unfold Wd
  omega
theorem dM_dg {x z : Nat → Int} (h : Dg 65536 16 x) (k : Dg 65536 16 z) : Dg 65536 16 (dM x z) := mulD_dd (dgw h) (dgw k)

theorem dA_eqp (x z : Nat → Int) : Eqp (val D16 (dA x z) 16) (val D16 x 16 + val D16 z 16) := by have := addD_eqp (Wd x) (Wd z); unfold Wd at this; rwa [wd_val, wd_val] at this
theorem dB_eqp (x z : Nat → Int) : Eqp (val D16 (dB x z) 16) (val D16 x 16 - val D16 z 16) := by have := subD_eqp (Wd x) (Wd z); unfold Wd at this; rwa [wd_val, wd_val] at this
theorem dM_eqp (x z : Nat → Int) : Eqp (val D16 (dM x z) 16) (val D16 x 16 * val D16 z 16) := by have := mulD_eqp (Wd x) (Wd z); unfold Wd at this; rwa [wd_val, wd_val] at this

theorem tD_eq {a e : Nat → Int} (ha : Dg 65536 16 a) (he : Dg 65536 16 e) : tD a e = cellsI .i64 16 (fun k => a k + 121665 * e k) := cellsI_congr fun i hi => by
  have := ha i hi; have := he i hi
  rw [w64 (n := 121665 * e i) (by omega) (by omega), w64 (by omega) (by omega)]
theorem tD_le {a e : Nat → Int} (ha : Dg 65536 16 a) (he : Dg 65536 16 e) : leB 100000000000000 (tD a e) = true := by
  rw [tD_eq ha he]
  exact leB_iff.2 fun i hi => by have := ha i hi; have := he i hi; omega
theorem tD_dg {a e : Nat → Int} (ha : Dg 65536 16 a) (he : Dg 65536 16 e) : Dg 65536 16 (pass3 (wd (tD a e))) := by
  rw [tD_eq ha he]
  refine pass3_dg fun i hi => ?_
  rw [wd_cellsI hi]
  have := ha i hi; have := he i hi
  omega
theorem tD_eqp {a e : Nat → Int} (ha : Dg 65536 16 a) (he : Dg 65536 16 e) : Eqp (val D16 (pass3 (wd (tD a e))) 16) (val D16 a 16 + 121665 * val D16 e 16) := by
  rw [tD_eq ha he]
  have := pass3_val (wd (cellsI .i64 16 (fun k => a k + 121665 * e k)))
  rw [wd_val, val_add (t := fun k => 121665 * e k), val_smul] at this
  exact this

theorem ld_ok {x y : Nat → Int} (hx : Dg 65536 16 x) (hy : Dg 65536 16 y) : (ld x y).1 = (ld x y).2 := by
  show (leB 65535 (cellsI .i64 16 x) && leB 65535 (cellsI .i64 16 y)) = true
  rw [le_dg hx, le_dg hy]
  rfl

theorem dbl_ok {p : Nat → Int} (h : DgP p) : DgP (dblD p) ∧ EqP (ptD (dblD p)) (dbl (ptD p)) ∧ Held (dblPins p) := by
  obtain ⟨h1, h2⟩ := h
  have a := dA_dg h1 h2
  have b := dB_dg h1 h2
  have aa : Dg 65536 16 (dAA p) := by unfold dAA; exact dM_dg a a
  have bb : Dg 65536 16 (dBB p) := by unfold dBB; exact dM_dg b b
  have e : Dg 65536 16 (dE p) := by unfold dE; exact dB_dg aa bb
  have t := tD_dg aa e
  have dx : Dg 65536 16 (dDX p) := by unfold dDX; exact dM_dg aa bb
  have dz : Dg 65536 16 (dDZ p) := by unfold dDZ; exact dM_dg e t
  refine ⟨join_dg dx dz, ?_, ?_⟩
  · unfold dblD
    rw [join_pt]
    have qa : Eqp (val D16 (dAA p) 16) (sq ((ptD p).x + (ptD p).z)) := (dM_eqp _ _).trans ((dA_eqp _ _).mul (dA_eqp _ _))
    have qb : Eqp (val D16 (dBB p) 16) (sq ((ptD p).x - (ptD p).z)) := (dM_eqp _ _).trans ((dB_eqp _ _).mul (dB_eqp _ _))
    have qe : Eqp (val D16 (dE p) 16) (sq ((ptD p).x + (ptD p).z) - sq ((ptD p).x - (ptD p).z)) := (dB_eqp _ _).trans (qa.sub qb)
    exact ⟨(dM_eqp _ _).trans (qa.mul qb), (dM_eqp _ _).trans (qe.mul ((tD_eqp aa e).trans (qa.add ((Eqp.refl 121665).mul qe))))⟩
  · clear dx dz
    intro pr hp
    simp only [dblPins, List.mem_cons, List.not_mem_nil, or_false] at hp
    rcases hp with rfl | rfl | rfl | rfl | rfl | rfl | rfl | rfl
    · exact ld_ok h1 h2
    · exact ld_ok h1 h2
    · exact ld_ok a a
    · exact ld_ok b b
    · exact ld_ok aa bb
    · exact ld_ok aa bb
    · have := tD_le aa e
      simpa only using this
    · exact ld_ok e t

theorem sum_ok {p q x : Nat → Int} (h : DgP p) (k : DgP q) (hx : Dg 65536 16 x) : DgP (sumD p q x) ∧ EqP (ptD (sumD p q x)) (dadd (ptD p) (ptD q) (val D16 x 16)) ∧ Held (addPinsD p q x) := by
  obtain ⟨h1, h2⟩ := h
  obtain ⟨k1, k2⟩ := k
  have a := dA_dg h1 h2
  have b := dB_dg h1 h2
  have c := dA_dg k1 k2
  have d := dB_dg k1 k2
  have da : Dg 65536 16 (dDA p q) := by unfold dDA; exact dM_dg d a
  have cb : Dg 65536 16 (dCB p q) := by unfold dCB; exact dM_dg c b
  have u := dA_dg da cb
  have v : Dg 65536 16 (dV p q) := by unfold dV; exact dB_dg da cb
  have vv := dM_dg v v
  have sx : Dg 65536 16 (dSX p q) := by unfold dSX; exact dM_dg u u
  have sz : Dg 65536 16 (dSZ p q x) := by unfold dSZ; exact dM_dg hx vv
  refine ⟨join_dg sx sz, ?_, ?_⟩
  · unfold sumD
    rw [join_pt]
    have qa : Eqp (val D16 (dDA p q) 16) (((ptD q).x - (ptD q).z) * ((ptD p).x + (ptD p).z)) := (dM_eqp _ _).trans ((dB_eqp _ _).mul (dA_eqp _ _))
    have qb : Eqp (val D16 (dCB p q) 16) (((ptD q).x + (ptD q).z) * ((ptD p).x - (ptD p).z)) := (dM_eqp _ _).trans ((dA_eqp _ _).mul (dB_eqp _ _))
    have s := (dA_eqp (dDA p q) (dCB p q)).trans (qa.add qb)
    have t := (dB_eqp (dDA p q) (dCB p q)).trans (qa.sub qb)
    exact ⟨(dM_eqp _ _).trans (s.mul s), (dM_eqp _ _).trans ((Eqp.refl _).mul ((dM_eqp _ _).trans (t.mul t)))⟩
  · clear sx sz
    intro pr hp
    simp only [addPinsD, List.mem_cons, List.not_mem_nil, or_false] at hp
    rcases hp with rfl | rfl | rfl | rfl | rfl | rfl | rfl | rfl | rfl | rfl | rfl
    · exact ld_ok h1 h2
    · exact ld_ok h1 h2
    · exact ld_ok k1 k2
    · exact ld_ok k1 k2
    · exact ld_ok d a
    · exact ld_ok c b
    · exact ld_ok da cb
    · exact ld_ok da cb
    · exact ld_ok u u
    · exact ld_ok v v
    · exact ld_ok hx vv

/-! ### Contracts of the two -/
def isP (A : List Value) : Bool := Nat.beq A.length 32 && A.all (isI .i64)
theorem isP_eq {A : List Value} (h : isP A = true) : A = cellsI .i64 32 (wd A) := by
  simp only [isP, Bool.and_eq_true] at h
  have := cellsI_wd h.2
  rwa [Nat.eq_of_beq_eq_true h.1] at this
theorem leP {A : List Value} (hA : isP A = true) (h : leB 65535 A = true) : DgP (wd A) := by
  rw [isP_eq hA, leB_iff] at h
  exact ⟨fun i hi => by have := h i (by omega); omega, fun i hi => by have := h (16 + i) (by omega); unfold hi16; omega⟩

def dblSum (f : FuncId) : Sum :=
  { f := f, ro := true
    S := fun args os => match args, os with
      | [.agg ⟨A⟩], [] => if isP A then some (.agg ⟨cellsI .i64 32 (dblD (wd A))⟩, [], []) else none
      | _, _ => none
    C := fun args _ => match args with
      | [.agg ⟨A⟩] => [(leB 65535 A, true)]
      | _ => [] }
theorem dbl44 (M : Mem) : (dblSum 44).SoundC Try.prog M := sumC_sound Try.func44 (by kernel_rfl) (by kernel_rfl) fun args os v os' ns hs hp => by
  simp only [dblSum] at hs hp ⊢
  split at hs
  · rename_i A
    split at hs
    · rename_i hA
      cases hs
      have hb : leB 65535 A = true := hp (leB 65535 A, true) (List.Mem.head _)
      obtain ⟨_, _, hh⟩ := dbl_ok (leP hA hb)
      have := acalls_of_evFC (L44_sound M) mix Try.func44 (r44 M (wd A)) hh
      have el : [Value.agg ⟨A⟩] = [Value.agg ⟨cellsI .i64 32 (wd A)⟩] := congrArg (fun l => [Value.agg ⟨l⟩]) (isP_eq hA)
      rw [el]
      exact ⟨this, fun _ => rfl⟩
    · cases hs
  · cases hs

def sumPSum (f : FuncId) : Sum :=
  { f := f, ro := true
    S := fun args os => match args, os with
      | [.agg ⟨A⟩, .agg ⟨B⟩, .agg ⟨X⟩], [] => if isP A && (isP B && isD X) then some (.agg ⟨cellsI .i64 32 (sumD (wd A) (wd B) (wd X))⟩, [], []) else none
      | _, _ => none
    C := fun args _ => match args with
      | [.agg ⟨A⟩, .agg ⟨B⟩, .agg ⟨X⟩] => [(leB 65535 A && (leB 65535 B && leB 65535 X), true)]
      | _ => [] }
theorem sum42 (M : Mem) : (sumPSum 42).SoundC Try.prog M := sumC_sound Try.func42 (by kernel_rfl) (by kernel_rfl) fun args os v os' ns hs hp => by
  simp only [sumPSum] at hs hp ⊢
  split at hs
  · rename_i A B X
    split at hs
    · rename_i hA
      cases hs
      simp only [Bool.and_eq_true] at hA
      have hb : (leB 65535 A && (leB 65535 B && leB 65535 X)) = true := hp (_, true) (List.Mem.head _)
      simp only [Bool.and_eq_true] at hb
      obtain ⟨_, _, hh⟩ := sum_ok (leP hA.1 hb.1) (leP hA.2.1 hb.2.1) (dg_of hA.2.2 hb.2.2)
      have := acalls_of_evFC (L44_sound M) mix Try.func42 (r42 M (wd A) (wd B) (wd X)) hh
      have el : [Value.agg ⟨A⟩, .agg ⟨B⟩, .agg ⟨X⟩] = [Value.agg ⟨cellsI .i64 32 (wd A)⟩, .agg ⟨cellsI .i64 32 (wd B)⟩, .agg ⟨cellsI .i64 16 (wd X)⟩] := by
        rw [← isP_eq hA.1, ← isP_eq hA.2.1, ← isD_eq hA.2.2]
      rw [el]
      exact ⟨this, fun _ => rfl⟩
    · cases hs
  · cases hs

end Go.Proofs.Ytjdckgnpocnifaa
