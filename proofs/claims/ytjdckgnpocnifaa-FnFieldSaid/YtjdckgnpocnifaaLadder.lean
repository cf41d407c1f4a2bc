/- The program's ladder: all rounds.
   Conditions: the limbs are in bounds. -/
import Derived.Test.YtjdckgnpocnifaaStep
open Go.Ab Go.Num
set_option linter.unusedVariables false
set_option linter.unusedSimpArgs false
namespace Go.Proofs.Ytjdckgnpocnifaa

structure E4 where
  x2 : Nat → Int
  z2 : Nat → Int
  x3 : Nat → Int
  z3 : Nat → Int

/-- One round. -/
def stE (c : Bool) (u : Nat → Int) (p : E4) : E4 :=
  match c with
  | true => ⟨eSX p.x3 p.z3 p.x2 p.z2, eSZ u p.x3 p.z3 p.x2 p.z2, eDX p.x3 p.z3, eDZ p.x3 p.z3⟩
  | false => ⟨eDX p.x2 p.z2, eDZ p.x2 p.z2, eSX p.x2 p.z2 p.x3 p.z3, eSZ u p.x2 p.z2 p.x3 p.z3⟩
/-- The ladder's limbs behind n rounds. -/
def ladE (b : Nat → Bool) (u : Nat → Int) (s : E4) : Nat → E4
  | 0 => s
  | n + 1 => stE (b (254 - n)) u (ladE b u s n)

def E4.Bd (s : E4) : Prop := Go.Num.Bd RB s.x2 ∧ Go.Num.Bd RB s.z2 ∧ Go.Num.Bd RB s.x3 ∧ Go.Num.Bd RB s.z3

theorem eA_bd {x z : Nat → Int} (h : Bd RB x) (k : Bd RB z) : Bd RB (eA x z) := addE_bd (bd_wd h) (bd_wd k)
theorem eB_bd {x z : Nat → Int} (h : Bd RB x) (k : Bd RB z) : Bd RB (eB x z) := subE_bd (bd_wd h) (bd_wd k)
theorem eM_bd {x z : Nat → Int} (h : Bd RB x) (k : Bd RB z) : Bd RB (eM x z) := mulE_bd (bd_wd h) (bd_wd k)
theorem e121665_bd : Bd RB e121665 := fun i _ => by unfold e121665 RB; cases Nat.beq i 0 <;> simp

theorem eA_eqp (x z : Nat → Int) : Eqp (val B51 (eA x z) 5) (val B51 x 5 + val B51 z 5) := by have := addE_eqp (We x) (We z); unfold We at this; rwa [wd_val, wd_val] at this
theorem eB_eqp (x z : Nat → Int) : Eqp (val B51 (eB x z) 5) (val B51 x 5 - val B51 z 5) := by have := subE_eqp (We x) (We z); unfold We at this; rwa [wd_val, wd_val] at this
theorem eM_eqp (x z : Nat → Int) : Eqp (val B51 (eM x z) 5) (val B51 x 5 * val B51 z 5) := by have := mulE_eqp (We x) (We z); unfold We at this; rwa [wd_val, wd_val] at this
theorem e121665_val : val B51 e121665 5 = 121665 := by decide +kernel

/-- A point's numbers. -/
def pt (x z : Nat → Int) : Pt := ⟨val B51 x 5, val B51 z 5⟩

theorem eD_eqp (x z : Nat → Int) : EqP (pt (eDX x z) (eDZ x z)) (dbl (pt x z)) := by
  have a : Eqp (val B51 (eAA x z) 5) (sq (val B51 x 5 + val B51 z 5)) := (eM_eqp _ _).trans ((eA_eqp x z).mul (eA_eqp x z))
  have b : Eqp (val B51 (eBB x z) 5) (sq (val B51 x 5 - val B51 z 5)) := (eM_eqp _ _).trans ((eB_eqp x z).mul (eB_eqp x z))
  have e : Eqp (val B51 (eE x z) 5) (sq (val B51 x 5 + val B51 z 5) - sq (val B51 x 5 - val B51 z 5)) := (eB_eqp _ _).trans (a.sub b)
  refine ⟨(eM_eqp _ _).trans (a.mul b), (eM_eqp _ _).trans (e.mul ((eA_eqp _ _).trans (a.add ((eM_eqp _ _).trans ?_))))⟩
  rw [e121665_val, Int.mul_comm 121665]
  exact e.mul (.refl _)

theorem eS_eqp (u x z x3 z3 : Nat → Int) : EqP (pt (eSX x z x3 z3) (eSZ u x z x3 z3)) (dadd (pt x z) (pt x3 z3) (val B51 u 5)) := by
  have a : Eqp (val B51 (eDA x z x3 z3) 5) ((val B51 x3 5 - val B51 z3 5) * (val B51 x 5 + val B51 z 5)) := (eM_eqp _ _).trans ((eB_eqp x3 z3).mul (eA_eqp x z))
  have b : Eqp (val B51 (eCB x z x3 z3) 5) ((val B51 x3 5 + val B51 z3 5) * (val B51 x 5 - val B51 z 5)) := (eM_eqp _ _).trans ((eA_eqp x3 z3).mul (eB_eqp x z))
  have s := (eA_eqp (eDA x z x3 z3) (eCB x z x3 z3)).trans (a.add b)
  have t := (eB_eqp (eDA x z x3 z3) (eCB x z x3 z3)).trans (a.sub b)
  exact ⟨(eM_eqp _ _).trans (s.mul s), (eM_eqp _ _).trans ((Eqp.refl _).mul ((eM_eqp _ _).trans (t.mul t)))⟩

theorem lb_ok {x y : Nat → Int} (hx : Bd RB x) (hy : Bd RB y) : (lb x y).1 = (lb x y).2 := by
  show (leB RB (cellsI .u64 5 x) && leB RB (cellsI .u64 5 y)) = true
  rw [bd_le (Int.le_refl _) hx, bd_le (Int.le_refl _) hy]
  rfl

theorem eDS_bd {u x z x3 z3 : Nat → Int} (hu : Bd RB u) (h1 : Bd RB x) (h2 : Bd RB z) (h3 : Bd RB x3) (h4 : Bd RB z3) :
    Bd RB (eDX x z) ∧ Bd RB (eDZ x z) ∧ Bd RB (eSX x z x3 z3) ∧ Bd RB (eSZ u x z x3 z3) ∧ Held (ePins u x z x3 z3) := by
  have a := eA_bd h1 h2
  have b := eB_bd h1 h2
  have c := eA_bd h3 h4
  have d := eB_bd h3 h4
  have aa : Bd RB (eAA x z) := by unfold eAA; exact eM_bd a a
  have bb : Bd RB (eBB x z) := by unfold eBB; exact eM_bd b b
  have e : Bd RB (eE x z) := by unfold eE; exact eB_bd aa bb
  have da : Bd RB (eDA x z x3 z3) := by unfold eDA; exact eM_bd d a
  have cb : Bd RB (eCB x z x3 z3) := by unfold eCB; exact eM_bd c b
  have s := eA_bd da cb
  have t : Bd RB (eT x z x3 z3) := by unfold eT; exact eB_bd da cb
  have tt := eM_bd t t
  have f := eM_bd e e121665_bd
  have g := eA_bd aa f
  have dx : Bd RB (eDX x z) := by unfold eDX; exact eM_bd aa bb
  have dz : Bd RB (eDZ x z) := by unfold eDZ; exact eM_bd e g
  have sx : Bd RB (eSX x z x3 z3) := by unfold eSX; exact eM_bd s s
  have sz : Bd RB (eSZ u x z x3 z3) := by unfold eSZ; exact eM_bd hu tt
  refine ⟨dx, dz, sx, sz, ?_⟩
  clear dx dz sx sz
  intro pr hp
  simp only [ePins, List.mem_cons, List.not_mem_nil, or_false] at hp
  rcases hp with rfl | rfl | rfl | rfl | rfl | rfl | rfl | rfl | rfl | rfl | rfl | rfl | rfl | rfl | rfl | rfl | rfl | rfl
  · exact lb_ok h1 h2
  · exact lb_ok h1 h2
  · exact lb_ok h3 h4
  · exact lb_ok h3 h4
  · exact lb_ok a a
  · exact lb_ok b b
  · exact lb_ok aa bb
  · exact lb_ok d a
  · exact lb_ok c b
  · exact lb_ok da cb
  · exact lb_ok da cb
  · exact lb_ok s s
  · exact lb_ok t t
  · exact lb_ok hu tt
  · exact lb_ok aa bb
  · exact lb_ok e e121665_bd
  · exact lb_ok aa f
  · exact lb_ok e g

theorem ladE_zero (b : Nat → Bool) (u : Nat → Int) (s : E4) : ladE b u s 0 = s := rfl
theorem ladE_succ (b : Nat → Bool) (u : Nat → Int) (s : E4) (n : Nat) : ladE b u s (n + 1) = stE (b (254 - n)) u (ladE b u s n) := rfl
theorem ladE_t {b : Nat → Bool} {u : Nat → Int} {s : E4} {n : Nat} (h : b (254 - n) = true) : ladE b u s (n + 1) = ⟨eSX (ladE b u s n).x3 (ladE b u s n).z3 (ladE b u s n).x2 (ladE b u s n).z2, eSZ u (ladE b u s n).x3 (ladE b u s n).z3 (ladE b u s n).x2 (ladE b u s n).z2, eDX (ladE b u s n).x3 (ladE b u s n).z3, eDZ (ladE b u s n).x3 (ladE b u s n).z3⟩ := by
  rw [ladE_succ, h]; rfl
theorem ladE_f {b : Nat → Bool} {u : Nat → Int} {s : E4} {n : Nat} (h : b (254 - n) = false) : ladE b u s (n + 1) = ⟨eDX (ladE b u s n).x2 (ladE b u s n).z2, eDZ (ladE b u s n).x2 (ladE b u s n).z2, eSX (ladE b u s n).x2 (ladE b u s n).z2 (ladE b u s n).x3 (ladE b u s n).z3, eSZ u (ladE b u s n).x2 (ladE b u s n).z2 (ladE b u s n).x3 (ladE b u s n).z3⟩ := by
  rw [ladE_succ, h]; rfl

/-- The bits of these bytes. -/
def bitS (S : List Value) (n : Nat) : Bool := bitP S n

theorem ladE_bd {b : Nat → Bool} {u : Nat → Int} {s : E4} (hu : Bd RB u) (hs : s.Bd) : ∀ n, (ladE b u s n).Bd := by
  intro n
  induction n with
  | zero => rw [ladE_zero]; exact hs
  | succ n ih =>
    obtain ⟨h1, h2, h3, h4⟩ := ih
    cases hb : b (254 - n) with
    | true =>
      rw [ladE_t hb]
      obtain ⟨a, b, c, d, _⟩ := eDS_bd hu h3 h4 h1 h2
      exact ⟨c, d, a, b⟩
    | false =>
      rw [ladE_f hb]
      obtain ⟨a, b, c, d, _⟩ := eDS_bd hu h1 h2 h3 h4
      exact ⟨a, b, c, d⟩

theorem EqP_trans {p q r : Pt} (h : EqP p q) (k : EqP q r) : EqP p r := ⟨h.1.trans k.1, h.2.trans k.2⟩

theorem ladE_eqp {b : Nat → Bool} {u : Nat → Int} {s : E4} (h1 : pt s.x2 s.z2 = ⟨1, 0⟩) (h2 : EqP (pt s.x3 s.z3) ⟨val B51 u 5, 1⟩) : ∀ n,
    EqP (pt (ladE b u s n).x2 (ladE b u s n).z2) (lad b (val B51 u 5) n).1 ∧ EqP (pt (ladE b u s n).x3 (ladE b u s n).z3) (lad b (val B51 u 5) n).2 := by
  intro n
  induction n with
  | zero => rw [ladE_zero]; exact ⟨by simp only [lad, h1]; exact ⟨.refl _, .refl _⟩, h2⟩
  | succ n ih =>
    obtain ⟨i1, i2⟩ := ih
    cases hb : b (254 - n) with
    | true =>
      rw [ladE_t hb]
      simp only [lad, hb, if_true]
      refine ⟨?_, EqP_trans (eD_eqp _ _) (dbl_eqp i2)⟩
      rw [dadd_comm]
      exact EqP_trans (eS_eqp _ _ _ _ _) (dadd_eqp i2 i1 (.refl _))
    | false =>
      rw [ladE_f hb]
      simp only [lad, hb]
      exact ⟨EqP_trans (eD_eqp _ _) (dbl_eqp i1), EqP_trans (eS_eqp _ _ _ _ _) (dadd_eqp i1 i2 (.refl _))⟩

def hsE (q : Gs) (o1 o2 : AObj) (S : List Value) (u : Nat → Int) (s : E4) : AHeap := hs15 q o1 o2 S u s.x2 s.z2 s.x3 s.z3

theorem step15 (M : Mem) {S : List Value} (hS : isB 32 S = true) (hr : rngB S = true) {u : Nat → Int} (hu : Bd RB u) {s : E4} (hs : s.Bd) (q : Gs) (o1 o2 : AObj) (m : Int) {i : Nat} (hi : i < 255) (z : Nat → Value) :
    ∃ z', BigK 8 Try.prog M loop15 ⟨mkT 130 [2, 3, 6, 8, 9, 10, 11, 12, 13] (vs15 m (254 - (i : Int))) z, hsE q ⟨o1.cells, o1.grow, o1.esz, true⟩ ⟨o2.cells, o2.grow, o2.esz, true⟩ S u (ladE (bitS S) u s i)⟩ .normal
      ⟨mkT 130 [2, 3, 6, 8, 9, 10, 11, 12, 13] (vs15 m (254 - ((i + 1 : Nat) : Int))) z', hsE q ⟨o1.cells, o1.grow, o1.esz, true⟩ ⟨o2.cells, o2.grow, o2.esz, true⟩ S u (ladE (bitS S) u s (i + 1))⟩ := by
  obtain ⟨h1, h2, h3, h4⟩ := ladE_bd (b := fun n => bitP S n) hu hs i
  have ew : IntKind.i64.wrap (254 - (i : Int) - 1) = 254 - ((i + 1 : Nat) : Int) := by rw [w64 (by omega) (by omega)]; omega
  have ek : (254 - (i : Int)) = ((254 - i : Nat) : Int) := by omega
  have hq : (254 - (i : Int)).tdiv 8 = (254 - (i : Int)) / 8 := Int.tdiv_eq_ediv_of_nonneg (by omega)
  have hm : (254 - (i : Int)).tmod 8 = (254 - (i : Int)) % 8 := Int.tmod_eq_emod_of_nonneg (by omega)
  have hw : IntKind.i64.wrap ((254 - (i : Int)).tdiv 8) = (254 - (i : Int)) / 8 := by rw [hq, w64 (by omega) (by omega)]
  have hSl : S.length = 32 := by simp only [isB, Bool.and_eq_true] at hS; exact Nat.eq_of_beq_eq_true hS.1
  have hb : ∀ c, bitP S (254 - (i : Int)) = c → Held (bPins S q.g0 q.e0 (254 - (i : Int)) c) := fun c hc => by
    refine held_cons (by rw [decide_eq_true_eq]; omega) (held_cons (by rw [hw, inB_iff]; omega) (held_cons ?_ (held_cons ?_ (held_one hc))))
    · rw [hw]
      have hlt : 0 + ((254 - (i : Int)) / 8).toNat * 1 < 32 := by omega
      have : atC S (0 + ((254 - (i : Int)) / 8).toNat * 1) = .int .u8 (wd S (0 + ((254 - (i : Int)) / 8).toNat * 1)) := by
        have e := isB_eq hS
        rw [e, atC_cells hlt, wd_cellsI hlt]
      simp only [ldB, hSl, this, isI, decide_true, Bool.and_self]
    · rw [hm]
      simp only [shB, Bool.and_eq_true, decide_eq_true_eq]
      have : (IntKind.u8.bits : Int) = 8 := rfl
      omega
  cases hc : bitP S (254 - (i : Int)) with
  | true =>
    obtain ⟨_, _, _, _, hp⟩ := eDS_bd hu h3 h4 h1 h2
    obtain ⟨z', h⟩ := bigK_view (ovX_ok _ _) (L15_sound M) mix (hooksOk_nil _) (step15t M q o1 o2 S u _ _ _ _ m (254 - (i : Int)) z) (held_app (hb true hc) hp)
    rw [ew] at h
    rw [ladE_t (show bitS S (254 - i) = true by unfold bitS; rw [← ek]; exact hc)]
    exact ⟨z', h⟩
  | false =>
    obtain ⟨_, _, _, _, hp⟩ := eDS_bd hu h1 h2 h3 h4
    obtain ⟨z', h⟩ := bigK_view (ovX_ok _ _) (L15_sound M) mix (hooksOk_nil _) (step15f M q o1 o2 S u _ _ _ _ m (254 - (i : Int)) z) (held_app (hb false hc) hp)
    rw [ew] at h
    rw [ladE_f (show bitS S (254 - i) = false by unfold bitS; rw [← ek]; exact hc)]
    exact ⟨z', h⟩

def hook15 (vs : List Value) (H : AHeap) : Option (AExit × List Value × AHeap × Pins) :=
  match vs, H with
  | [.int .i64 m, .pointer (some ⟨0, 0, some 32⟩), .pointer (some ⟨2, 0, some 32⟩), .pointer (some ⟨3, 0, some 5⟩), .pointer (some ⟨4, 0, some 5⟩), .pointer (some ⟨5, 0, some 5⟩), .pointer (some ⟨6, 0, some 5⟩), .pointer (some ⟨7, 0, some 5⟩), .int .i64 k],
    [some ⟨S, g0, e0, true⟩, some ⟨c1, g1, e1, true⟩, some ⟨c2, g2, e2, true⟩, some ⟨U, g3, e3, true⟩, some ⟨X2, g4, e4, true⟩, some ⟨Z2, g5, e5, true⟩, some ⟨X3, g6, e6, true⟩, some ⟨Z3, g7, e7, true⟩] =>
    if isB 32 S && (isE U && (isE X2 && (isE Z2 && (isE X3 && isE Z3)))) then
      some (.normal, [.int .i64 m, .pointer (some ⟨2, 0, some 32⟩), .pointer (some ⟨4, 0, some 5⟩), .pointer (some ⟨5, 0, some 5⟩)],
        hsE ⟨g0, g3, g4, g5, g6, g7, e0, e3, e4, e5, e6, e7⟩ ⟨c1, g1, e1, true⟩ ⟨c2, g2, e2, true⟩ S (wd U) (ladE (bitS S) (wd U) ⟨wd X2, wd Z2, wd X3, wd Z3⟩ 255),
        [(decide (k = 254), true), (rngB S, true), (leB RB U && (leB RB X2 && (leB RB Z2 && (leB RB X3 && leB RB Z3))), true)]) else none
  | _, _ => none

end Go.Proofs.Ytjdckgnpocnifaa
