/- The law FnExactAdmit returns true of every peer, stamp and clock, which read behind the call as before.
   Conditions: none. -/
import Derived.Test.YthflpgckojnbmaaAbB
import Derived.Test.YthflpgckojnbmaaTaiLess
open Go.Ab
set_option linter.unusedVariables false
set_option linter.unusedSimpArgs false
namespace Go.Proofs.Ythflpgckojnbmaa

noncomputable def I13 (M : Mem) : Sum := inl Try.prog M (fns []) 1000 13 Try.f13
theorem I13_s (M : Mem) : (I13 M).Sound Try.prog M := inl_sound fns_nil mix Try.func13 (by kernel_rfl) (by kernel_rfl)
noncomputable def I28 (M : Mem) : Sum := inl Try.prog M (fns [I13 M]) 1000 28 Try.f28
theorem I28_s (M : Mem) : (I28 M).Sound Try.prog M := inl_sound (fns_sound (fns_cons (I13_s M) (by simp))) mix Try.func28 (by kernel_rfl) (by kernel_rfl)

theorem kPeer : flatK Try.prog 43 = some (.bool :: (List.replicate 12 (.int .u8) ++ [.int .i64])) := by kernel_rfl

noncomputable def A27 (M : Mem) (orc : List Bool) : Sum := inlC Try.prog M [lessSum 12] [14, 23, 28, 35] 1000 27 Try.f27 orc
noncomputable def A29 (M : Mem) (orc : List Bool) : Sum := inlC Try.prog M [lessSum 14] [14, 23, 28, 35] 1000 29 Try.f29 orc
noncomputable def A30 (M : Mem) : Sum := inlC Try.prog M [eqSum 21 12] [15, 20] 1000 30 Try.f30 [false, false]
theorem A27_s (M : Mem) (orc : List Bool) : (A27 M orc).SoundC Try.prog M := inlC_sound (consC (less12 M).c nilC) mix Try.func27 (by kernel_rfl) (by kernel_rfl)
theorem A29_s (M : Mem) (orc : List Bool) : (A29 M orc).SoundC Try.prog M := inlC_sound (consC (less14 M).c nilC) mix Try.func29 (by kernel_rfl) (by kernel_rfl)
theorem A30_s (M : Mem) : (A30 M).SoundC Try.prog M := inlC_sound (consC (eq12 M).c nilC) mix Try.func30 (by kernel_rfl) (by kernel_rfl)
noncomputable def L8 (M : Mem) (orc : List Bool) : List Sum := [I28 M, I13 M, A27 M orc, A29 M orc, A30 M]
theorem L8_sound (M : Mem) (orc : List Bool) : ∀ s ∈ L8 M orc, s.SoundC Try.prog M := consC (I28_s M).c (consC (I13_s M).c (consC (A27_s M orc) (consC (A29_s M orc) (consC (A30_s M) nilC))))

def lessXY (x y : Nat → Int) : Bool := Op.bytesLess (Lib.bytesOf ((List.range 12).map x)) (Lib.bytesOf ((List.range 12).map y))
def same8 (x : Nat → Int) (t : Int) : Pins := [(!eqB (cellsI .u8 12 x) (cellsI .u8 12 x), false), (t != t, false)]
def asks8 (x y : Nat → Int) (t now : Int) : List Bool := [lessXY x y, decide (t < 0), decide (t > now), decide (IntKind.wrap .i64 (now - t) < 50000000)]
def pins8 (x y : Nat → Int) (t now : Int) (orc : List Bool) : Pins := (asks8 x y t now).zip orc

def args8 (b : Bool) (x : Nat → Int) (t : Int) (y : Nat → Int) (now : Int) : List Value := [.agg ⟨.bool b :: (cellsI .u8 12 x ++ [.int .i64 t])⟩, .agg ⟨cellsI .u8 12 y⟩, .int .i64 now]

set_option maxRecDepth 100000 in
theorem p1 (M : Mem) (x y : Nat → Int) (t now : Int) : evFC Try.prog M (L8 M []) [] 1000 Try.f8 (args8 false x t y now) [] [] = some ((.bool true, [], []), same8 y now) := by kernel_rfl
set_option maxRecDepth 100000 in
theorem p2 (M : Mem) (x y : Nat → Int) (t now : Int) : evFC Try.prog M (L8 M [false]) [] 1000 Try.f8 (args8 true x t y now) [] [] = some ((.bool true, [], []), pins8 x y t now [false] ++ (pins8 x y t now [false] ++ same8 x t)) := by kernel_rfl
set_option maxRecDepth 100000 in
theorem p3 (M : Mem) (x y : Nat → Int) (t now : Int) : evFC Try.prog M (L8 M [true, true]) [] 1000 Try.f8 (args8 true x t y now) [] [] = some ((.bool true, [], []), pins8 x y t now [true, true] ++ (pins8 x y t now [true, true] ++ same8 x t)) := by kernel_rfl
set_option maxRecDepth 100000 in
theorem p4 (M : Mem) (x y : Nat → Int) (t now : Int) : evFC Try.prog M (L8 M [true, false, true]) [] 1000 Try.f8 (args8 true x t y now) [] [] = some ((.bool true, [], []), pins8 x y t now [true, false, true] ++ (pins8 x y t now [true, false, true] ++ same8 x t)) := by kernel_rfl
set_option maxRecDepth 100000 in
theorem p5 (M : Mem) (x y : Nat → Int) (t now : Int) : evFC Try.prog M (L8 M [true, false, false, true]) [] 1000 Try.f8 (args8 true x t y now) [] [] = some ((.bool true, [], []), pins8 x y t now [true, false, false, true] ++ (pins8 x y t now [true, false, false, true] ++ same8 x t)) := by kernel_rfl
set_option maxRecDepth 100000 in
theorem p6 (M : Mem) (x y : Nat → Int) (t now : Int) : evFC Try.prog M (L8 M [true, false, false, false]) [] 1000 Try.f8 (args8 true x t y now) [] [] = some ((.bool true, [], []), pins8 x y t now [true, false, false, false] ++ (pins8 x y t now [true, false, false, false] ++ same8 y now)) := by kernel_rfl

theorem same8_held (x : Nat → Int) (t : Int) : Held (same8 x t) := held_cons (by rw [eqB_cells]; rfl) (held_one (by simp))
theorem held_app {p q : Pins} (h : Held p) (h' : Held q) : Held (p ++ q) := fun y hy => (List.mem_append.1 hy).elim (h y) (h' y)

theorem run8a (M : Mem) (b : Bool) (x y : Nat → Int) (t now : Int) : ACalls Try.prog M 8 (args8 b x t y now) [] (.bool true) [] [] := by
  have done : ∀ {orc : List Bool} {u : Nat → Int} {r : Int}, b = true → evFC Try.prog M (L8 M orc) [] 1000 Try.f8 (args8 true x t y now) [] [] = some ((.bool true, [], []), pins8 x y t now orc ++ (pins8 x y t now orc ++ same8 u r)) → Held (pins8 x y t now orc) →
      ACalls Try.prog M 8 (args8 b x t y now) [] (.bool true) [] [] := fun hb h hp => by
    subst hb
    exact acalls_of_evFC (L8_sound M _) mix Try.func8 h (held_app hp (held_app hp (same8_held _ _)))
  cases b with
  | false => exact acalls_of_evFC (L8_sound M _) mix Try.func8 (p1 M x y t now) (same8_held _ _)
  | true =>
    cases h1 : lessXY x y with
    | false => exact done rfl (p2 M x y t now) (held_one h1)
    | true =>
      cases h2 : decide (t < 0) with
      | true => exact done rfl (p3 M x y t now) (held_cons h1 (held_one h2))
      | false =>
        cases h3 : decide (t > now) with
        | true => exact done rfl (p4 M x y t now) (held_cons h1 (held_cons h2 (held_one h3)))
        | false =>
          cases h4 : decide (IntKind.wrap .i64 (now - t) < 50000000) with
          | true => exact done rfl (p5 M x y t now) (held_cons h1 (held_cons h2 (held_cons h3 (held_one h4))))
          | false => exact done rfl (p6 M x y t now) (held_cons h1 (held_cons h2 (held_cons h3 (held_one h4))))

theorem run8 (W : World) (base : Nat) (v0 : Value) (h0 : Value.okWide Try.prog W .any base 43 v0) {H : Type} {enc : TypeId × Value → H} {d : DataW H} {p : List MemPlace} (_ : DataW.Trod enc Try.prog W 0 (fun _ => true) true 43 v0 d p)
    (v1 : Value) (h1 : Value.okWide Try.prog W .any base 23 v1) {d1 : DataW H} {p1 : List MemPlace} (_ : DataW.Trod enc Try.prog W 0 (fun _ => true) true 23 v1 d1 p1)
    (v2 : Value) (h2 : Value.okWide Try.prog W .any base 3 v2) {d2 : DataW H} {p2 : List MemPlace} (_ : DataW.Trod enc Try.prog W 0 (fun _ => true) true 3 v2 d2 p2) :
    groundL [v0, v1, v2] = true ∧ ∃ ns, ACalls Try.prog (memOf W) 8 [v0, v1, v2] [] (.bool true) [] ns := by
  obtain ⟨cs, rfl, hc⟩ := flat_ok kPeer h0
  obtain ⟨cs1, rfl, hc1⟩ := flat_ok kStamp h1
  obtain ⟨now, rfl, hnow⟩ := value_ok (k := .int .i64) (by kernel_rfl) h2
  refine ⟨by simp only [groundL, ground, groundA, hc.ground, hc1.ground, Bool.and_true], [], ?_⟩
  obtain ⟨_, us, rfl, ⟨b, rfl⟩, hc2⟩ := cvs_cons hc
  obtain ⟨u1, u2, rfl, h3, h4⟩ := cvs_append hc2
  obtain ⟨x, rfl, _⟩ := cvs_cells (by exact ⟨by decide, by decide⟩) h3
  obtain ⟨_, us, rfl, ⟨t, rfl, ht⟩, h5⟩ := cvs_cons h4
  obtain rfl := cvs_nil h5
  obtain ⟨y, rfl, _⟩ := cvs_cells (by exact ⟨by decide, by decide⟩) hc1
  exact run8a _ b x y t now

set_option maxRecDepth 100000 in
theorem FnExactAdmit_lifted (os : Os) (started : os.Started) (H : Type) (enc : TypeId × Value → H) :
    ReturnsInHanded {} Try.checked os 8 .any (Rows.fnExactAdmitSpec.pre6 enc Try.prog Try.f8 Rows.fnExactAdmitRow.domain false) (Rows.fnExactAdmitSpec.post enc Try.prog Try.f8 false true false false) :=
  lifted own (by kernel_rfl) Try.func8 (tb := 4) (by kernel_rfl) Try.underlying4 (by kernel_rfl) rfl (fun H ds h => by
      obtain ⟨_, _, _, rfl⟩ := len3 (l := ds) (h.trans (by kernel_rfl)); rfl)
    (fun W base H enc args ds ps h hv => by
      rw [show Try.f8.params = _ from Try.params8] at h hv
      obtain ⟨v0, v1, v2, d0, d1, d2, p0, p1, p2, rfl, rfl, rfl, h0, h1, h2⟩ := Go.ChangeShapes.trodAll_three h
      exact run8 W base v0 (hv 0 _ v0 rfl rfl) h0 v1 (hv 1 _ v1 rfl rfl) h1 v2 (hv 2 _ v2 rfl rfl) h2) os started enc
    (ChangeSpec.witness6 (enc := enc) (C := Try.checked) false ⟨#[], #[(.agg ((#[.bool false]) ++ Array.replicate 12 (.int .u8 0) ++ #[.int .i64 0])), (.agg (Array.replicate 12 (.int .u8 0))), (.int .i64 0)], []⟩ 64 (by kernel_rfl) (by kernel_rfl) (by kernel_rfl) (by kernel_rfl))

set_option maxRecDepth 100000 in
/-- The statement. -/
theorem FnExactAdmit_holds : Rows.FnExactAdmitSaid :=
  OpenClaim.holds_of_wide 8 Try.f8 rfl rfl rfl rfl rfl rfl rfl ⟨rfl, rfl, rfl, rfl, rfl⟩ rfl rfl rfl rfl rfl (by kernel_rfl) Try.func8 (by kernel_rfl)
    (of_decide_eq_true (by kernel_rfl)) (by unfold Func.isWrapper; first | (rw [if_pos (by decide +kernel)]; kernel_rfl) | (rw [if_neg (by decide +kernel)]; exact ⟨rfl, rfl⟩))
    (fun os started H enc _ => FnExactAdmit_lifted os started H enc)

end Go.Proofs.Ythflpgckojnbmaa
