/- The law FnExactWriteSource returns true of every source, which reads behind the call as before.
   Conditions: none. -/
import Derived.Test.YthflpgckojnbmaaLimitKey
import Derived.Test.YthflpgckojnbmaaSlices
open Go.Ab
set_option linter.unusedVariables false
set_option linter.unusedSimpArgs false
namespace Go.Proofs.Ythflpgckojnbmaa

noncomputable def I42 (M : Mem) : Sum := inl Try.prog M (fns []) 1000 42 Try.f42
theorem I42_s (M : Mem) : (I42 M).Sound Try.prog M := inl_sound fns_nil mix Try.func42 (by kernel_rfl) (by kernel_rfl)
noncomputable def I16 (M : Mem) : Sum := inl Try.prog M (fns [I42 M]) 1000 16 Try.f16
theorem I16_s (M : Mem) : (I16 M).Sound Try.prog M := inl_sound (fns_sound (fns_cons (I42_s M) (by simp))) mix Try.func16 (by kernel_rfl) (by kernel_rfl)
noncomputable def I22 (M : Mem) : Sum := inl Try.prog M (fns []) 1000 22 Try.f22
theorem I22_s (M : Mem) : (I22 M).Sound Try.prog M := inl_sound fns_nil mix Try.func22 (by kernel_rfl) (by kernel_rfl)
noncomputable def I45 (M : Mem) : Sum := inl Try.prog M (fns []) 1000 45 Try.f45
theorem I45_s (M : Mem) : (I45 M).Sound Try.prog M := inl_sound fns_nil mix Try.func45 (by kernel_rfl) (by kernel_rfl)
noncomputable def I23 (M : Mem) : Sum := inl Try.prog M (fns [I45 M]) 1000 23 Try.f23
theorem I23_s (M : Mem) : (I23 M).Sound Try.prog M := inl_sound (fns_sound (fns_cons (I45_s M) (by simp))) mix Try.func23 (by kernel_rfl) (by kernel_rfl)

noncomputable def L7 (M : Mem) : List Sum := [I16 M, I22 M, I23 M, eqsSum24, markSum25, heldSum26]
theorem L7_sound (M : Mem) : ∀ s ∈ L7 M, s.SoundC Try.prog M := consC (I16_s M).c (consC (I22_s M).c (consC (I23_s M).c (consC (eqsSum24_sound M) (consC (markSum25_sound M) (consC (heldSum26_sound M) nilC)))))

def endI (p : Int) : List Int := [IntKind.wrap .u8 (p.fdiv (2 ^ 8)), IntKind.wrap .u8 p]
def endS (p : Int) : List Int := [IntKind.wrap .u8 (IntKind.wrap .u16 (p.tdiv 256)), IntKind.wrap .u8 (p.tmod 256)]
theorem end_eq {p : Int} (h : IntKind.u16.has p) : endS p = endI p := by
  obtain ⟨h1, h2⟩ := has_u16 h
  simp only [endS, endI, wrap_u8, wrap_u16]
  rw [Int.tdiv_eq_ediv_of_nonneg h1, Int.tmod_eq_emod_of_nonneg h1, Int.fdiv_eq_ediv_of_nonneg _ (show (0 : Int) ≤ 2 ^ 8 by decide)]
  simp only [List.cons.injEq, and_true]
  exact ⟨by omega, by omega⟩

def pins7 (x : List Int) (p : Int) : Pins := [(true, true), (true, true), (!eqB ((x ++ endI p).map (.int .u8)) ((x ++ endS p).map (.int .u8)), false), (true, true), (true, true), (true, true), (true, true), (true, true), (!eqB ((x ++ endI p).map (.int .u8)) ((x ++ endS p).map (.int .u8)), false)]

set_option maxRecDepth 100000 in
theorem run7_6 (M : Mem) (a : Nat → Int) (p : Int) : evFC Try.prog M (L7 M) [17, 35] 1000 Try.f7 [.agg ⟨.bool true :: (cellsI .u8 16 a ++ [.int .u16 p])⟩] [] [false, false] =
   some ((.bool true, [], []), pins7 ((List.range 16).map a) p) := by kernel_rfl
set_option maxRecDepth 100000 in
theorem run7_4 (M : Mem) (a : Nat → Int) (p : Int) : evFC Try.prog M (L7 M) [17, 35] 1000 Try.f7 [.agg ⟨.bool false :: (cellsI .u8 16 a ++ [.int .u16 p])⟩] [] [false, false] =
   some ((.bool true, [], []), pins7 ((List.range 4).map a) p) := by kernel_rfl

theorem pins7_held {x : List Int} {p : Int} (h : IntKind.u16.has p) : Held (pins7 x p) := by
  intro y hy
  simp only [pins7, List.mem_cons, List.not_mem_nil, or_false] at hy
  rcases hy with rfl | rfl | rfl | rfl | rfl | rfl | rfl | rfl | rfl <;> first | rfl | (rw [end_eq h, eqB_self]; rfl)

theorem run7 (W : World) (base : Nat) (v0 : Value) (h0 : Value.okWide Try.prog W .any base 29 v0) {H : Type} {enc : TypeId × Value → H} {d : DataW H} {p : List MemPlace} (_ : DataW.Trod enc Try.prog W 0 (fun _ => true) true 29 v0 d p) :
    groundL [v0] = true ∧ ∃ ns, ACalls Try.prog (memOf W) 7 [v0] [] (.bool true) [] ns := by
  obtain ⟨cs, rfl, hc⟩ := flat_ok kSource h0
  refine ⟨by simp only [groundL, ground, groundA, hc.ground, Bool.and_true], [], ?_⟩
  obtain ⟨_, us, rfl, ⟨b, rfl⟩, hc2⟩ := cvs_cons hc
  obtain ⟨u1, u2, rfl, h1, h2⟩ := cvs_append hc2
  obtain ⟨a, rfl, _⟩ := cvs_cells (by exact ⟨by decide, by decide⟩) h1
  obtain ⟨_, us, rfl, ⟨n, rfl, hn⟩, h3⟩ := cvs_cons h2
  obtain rfl := cvs_nil h3
  cases b with
  | true => exact acalls_of_evFC (L7_sound _) mix Try.func7 (run7_6 _ a n) (pins7_held hn)
  | false => exact acalls_of_evFC (L7_sound _) mix Try.func7 (run7_4 _ a n) (pins7_held hn)

set_option maxRecDepth 100000 in
theorem FnExactWriteSource_lifted (os : Os) (started : os.Started) (H : Type) (enc : TypeId × Value → H) :
    ReturnsInHanded {} Try.checked os 7 .any (Rows.fnExactWriteSourceSpec.pre6 enc Try.prog Try.f7 Rows.fnExactWriteSourceRow.domain false) (Rows.fnExactWriteSourceSpec.post enc Try.prog Try.f7 false true false false) :=
  lifted own (by kernel_rfl) Try.func7 (tb := 4) (by kernel_rfl) Try.underlying4 (by kernel_rfl) rfl (fun H ds h => by
      obtain ⟨_, rfl⟩ := len1 (l := ds) (h.trans (by kernel_rfl)); rfl)
    (fun W base H enc args ds ps h hv => by
      rw [show Try.f7.params = _ from Try.params7] at h hv
      obtain ⟨v0, d0, rfl, rfl, h0⟩ := Go.ChangeShapes.trodAll_one h
      exact run7 W base v0 (hv 0 _ v0 rfl rfl) h0) os started enc
    (ChangeSpec.witness6 (enc := enc) (C := Try.checked) false ⟨#[], #[(.agg ((#[.bool false]) ++ Array.replicate 16 (.int .u8 0) ++ #[.int .u16 0]))], []⟩ 64 (by kernel_rfl) (by kernel_rfl) (by kernel_rfl) (by kernel_rfl))

set_option maxRecDepth 100000 in
/-- The statement. -/
theorem FnExactWriteSource_holds : Rows.FnExactWriteSourceSaid :=
  OpenClaim.holds_of_wide 7 Try.f7 rfl rfl rfl rfl rfl rfl rfl ⟨rfl, rfl, rfl, rfl, rfl⟩ rfl rfl rfl rfl rfl (by kernel_rfl) Try.func7 (by kernel_rfl)
    (of_decide_eq_true (by kernel_rfl)) (by unfold Func.isWrapper; first | (rw [if_pos (by decide +kernel)]; kernel_rfl) | (rw [if_neg (by decide +kernel)]; exact ⟨rfl, rfl⟩))
    (fun os started H enc _ => FnExactWriteSource_lifted os started H enc)

end Go.Proofs.Ythflpgckojnbmaa
