/- The law FnExactWriteReply returns true of every reply, which reads behind the call as before.
   Conditions: none. -/
import Derived.Test.YthflpgckojnbmaaAbB
import Derived.Test.YthflpgckojnbmaaBase
open Go.Ab
set_option linter.unusedVariables false
set_option linter.unusedSimpArgs false
namespace Go.Proofs.Ythflpgckojnbmaa

noncomputable def I47 (M : Mem) : Sum := inl Try.prog M (fns []) 1000 47 Try.f47
theorem I47_s (M : Mem) : (I47 M).Sound Try.prog M := inl_sound fns_nil mix Try.func47 (by kernel_rfl) (by kernel_rfl)
noncomputable def I48 (M : Mem) : Sum := inl Try.prog M (fns []) 1000 48 Try.f48
theorem I48_s (M : Mem) : (I48 M).Sound Try.prog M := inl_sound fns_nil mix Try.func48 (by kernel_rfl) (by kernel_rfl)
noncomputable def I34 (M : Mem) : Sum := inl Try.prog M (fns [I47 M, I48 M]) 1000 34 Try.f34
theorem I34_s (M : Mem) : (I34 M).Sound Try.prog M := inl_sound (fns_sound (fns_cons (I47_s M) (fns_cons (I48_s M) (by simp)))) mix Try.func34 (by kernel_rfl) (by kernel_rfl)
noncomputable def I55 (M : Mem) : Sum := inl Try.prog M (fns []) 1000 55 Try.f55
theorem I55_s (M : Mem) : (I55 M).Sound Try.prog M := inl_sound fns_nil mix Try.func55 (by kernel_rfl) (by kernel_rfl)
noncomputable def I54 (M : Mem) : Sum := inl Try.prog M (fns [I55 M]) 1000 54 Try.f54
theorem I54_s (M : Mem) : (I54 M).Sound Try.prog M := inl_sound (fns_sound (fns_cons (I55_s M) (by simp))) mix Try.func54 (by kernel_rfl) (by kernel_rfl)
noncomputable def I46 (M : Mem) : Sum := inl Try.prog M (fns [I54 M]) 1000 46 Try.f46
theorem I46_s (M : Mem) : (I46 M).Sound Try.prog M := inl_sound (fns_sound (fns_cons (I54_s M) (by simp))) mix Try.func46 (by kernel_rfl) (by kernel_rfl)
noncomputable def I33 (M : Mem) : Sum := inl Try.prog M (fns [I46 M]) 1000 33 Try.f33
theorem I33_s (M : Mem) : (I33 M).Sound Try.prog M := inl_sound (fns_sound (fns_cons (I46_s M) (by simp))) mix Try.func33 (by kernel_rfl) (by kernel_rfl)
noncomputable def I49 (M : Mem) : Sum := inl Try.prog M (fns []) 1000 49 Try.f49
theorem I49_s (M : Mem) : (I49 M).Sound Try.prog M := inl_sound fns_nil mix Try.func49 (by kernel_rfl) (by kernel_rfl)
noncomputable def I35 (M : Mem) : Sum := inl Try.prog M (fns [I49 M]) 1000 35 Try.f35
theorem I35_s (M : Mem) : (I35 M).Sound Try.prog M := inl_sound (fns_sound (fns_cons (I49_s M) (by simp))) mix Try.func35 (by kernel_rfl) (by kernel_rfl)

/-- The four bytes of a number, as the specification's text makes them. -/
def word4 (v : Int) : List Int := [IntKind.wrap .u8 (v.tmod 256), IntKind.wrap .u8 ((IntKind.wrap .u32 (v.tdiv 256)).tmod 256), IntKind.wrap .u8 ((IntKind.wrap .u32 ((IntKind.wrap .u32 (v.tdiv 256)).tdiv 256)).tmod 256),
  IntKind.wrap .u8 ((IntKind.wrap .u32 ((IntKind.wrap .u32 ((IntKind.wrap .u32 (v.tdiv 256)).tdiv 256)).tdiv 256)).tmod 256)]
/-- And as the program makes them. -/
def lay4 (v : Int) : List Int := [IntKind.wrap .u8 (v.fdiv (2 ^ 0)), IntKind.wrap .u8 (v.fdiv (2 ^ 8)), IntKind.wrap .u8 (v.fdiv (2 ^ 16)), IntKind.wrap .u8 (v.fdiv (2 ^ 24))]

theorem word4_eq {v : Int} (h : IntKind.u32.has v) : word4 v = lay4 v := by
  obtain ⟨h1, h2⟩ := has_u32 h
  simp only [word4, lay4, wrap_u8, wrap_u32]
  rw [Int.tdiv_eq_ediv_of_nonneg h1, Int.tmod_eq_emod_of_nonneg h1, Int.tdiv_eq_ediv_of_nonneg (a := v / 256 % 4294967296) (by omega), Int.tmod_eq_emod_of_nonneg (a := v / 256 % 4294967296) (by omega),
    Int.tdiv_eq_ediv_of_nonneg (a := v / 256 % 4294967296 / 256 % 4294967296) (by omega), Int.tmod_eq_emod_of_nonneg (a := v / 256 % 4294967296 / 256 % 4294967296) (by omega), Int.tmod_eq_emod_of_nonneg (a := v / 256 % 4294967296 / 256 % 4294967296 / 256 % 4294967296) (by omega)]
  simp only [Int.fdiv_eq_ediv_of_nonneg _ (show (0 : Int) ≤ 2 ^ 0 by decide), Int.fdiv_eq_ediv_of_nonneg _ (show (0 : Int) ≤ 2 ^ 8 by decide), Int.fdiv_eq_ediv_of_nonneg _ (show (0 : Int) ≤ 2 ^ 16 by decide), Int.fdiv_eq_ediv_of_nonneg _ (show (0 : Int) ≤ 2 ^ 24 by decide)]
  simp only [List.cons.injEq, and_true]
  refine ⟨?_, ?_, ?_, ?_⟩ <;> omega

theorem kReply : flatK Try.prog 58 = some (.int .u32 :: (List.replicate 24 (.int .u8) ++ List.replicate 32 (.int .u8))) := by kernel_rfl

noncomputable def L10 (M : Mem) : List Sum := [I34 M, I33 M, I35 M, eqSum 36 64]
theorem L10_sound (M : Mem) : ∀ s ∈ L10 M, s.SoundC Try.prog M := consC (I34_s M).c (consC (I33_s M).c (consC (I35_s M).c (consC (eq64 M).c nilC)))

set_option maxRecDepth 100000 in
theorem run10a (M : Mem) (v : Int) (x y : Nat → Int) : evFC Try.prog M (L10 M) [14] 1000 Try.f10 [.agg ⟨.int .u32 v :: (cellsI .u8 24 x ++ cellsI .u8 32 y)⟩] [] [false] =
   some ((.bool true, [], []), [(!eqB (([3, 0, 0, 0] ++ lay4 v ++ (List.range 24).map x ++ (List.range 32).map y).map (.int .u8)) (([3, 0, 0, 0] ++ word4 v ++ (List.range 24).map x ++ (List.range 32).map y).map (.int .u8)), false)]) := by kernel_rfl

theorem run10 (W : World) (base : Nat) (v0 : Value) (h0 : Value.okWide Try.prog W .any base 58 v0) {H : Type} {enc : TypeId × Value → H} {d : DataW H} {p : List MemPlace} (_ : DataW.Trod enc Try.prog W 0 (fun _ => true) true 58 v0 d p) :
    groundL [v0] = true ∧ ∃ ns, ACalls Try.prog (memOf W) 10 [v0] [] (.bool true) [] ns := by
  obtain ⟨cs, rfl, hc⟩ := flat_ok kReply h0
  refine ⟨by simp only [groundL, ground, groundA, hc.ground, Bool.and_true], [], ?_⟩
  obtain ⟨_, us, rfl, ⟨v, rfl, hv⟩, hc2⟩ := cvs_cons hc
  obtain ⟨u1, u2, rfl, h1, h2⟩ := cvs_append hc2
  obtain ⟨x, rfl, _⟩ := cvs_cells (by exact ⟨by decide, by decide⟩) h1
  obtain ⟨y, rfl, _⟩ := cvs_cells (by exact ⟨by decide, by decide⟩) h2
  exact acalls_of_evFC (L10_sound _) mix Try.func10 (run10a _ v x y) (held_one (by rw [word4_eq hv, eqB_self]; rfl))

set_option maxRecDepth 100000 in
theorem FnExactWriteReply_lifted (os : Os) (started : os.Started) (H : Type) (enc : TypeId × Value → H) :
    ReturnsInHanded {} Try.checked os 10 .any (Rows.fnExactWriteReplySpec.pre6 enc Try.prog Try.f10 Rows.fnExactWriteReplyRow.domain false) (Rows.fnExactWriteReplySpec.post enc Try.prog Try.f10 false true false false) :=
  lifted own (by kernel_rfl) Try.func10 (tb := 4) (by kernel_rfl) Try.underlying4 (by kernel_rfl) rfl (fun H ds h => by
      obtain ⟨_, rfl⟩ := len1 (l := ds) (h.trans (by kernel_rfl)); rfl)
    (fun W base H enc args ds ps h hv => by
      rw [show Try.f10.params = _ from Try.params10] at h hv
      obtain ⟨v0, d0, rfl, rfl, h0⟩ := Go.ChangeShapes.trodAll_one h
      exact run10 W base v0 (hv 0 _ v0 rfl rfl) h0) os started enc
    (ChangeSpec.witness6 (enc := enc) (C := Try.checked) false ⟨#[], #[(.agg (#[.int .u32 0] ++ Array.replicate 56 (.int .u8 0)))], []⟩ 64 (by kernel_rfl) (by kernel_rfl) (by kernel_rfl) (by kernel_rfl))

set_option maxRecDepth 100000 in
/-- The statement. -/
theorem FnExactWriteReply_holds : Rows.FnExactWriteReplySaid :=
  OpenClaim.holds_of_wide 10 Try.f10 rfl rfl rfl rfl rfl rfl rfl ⟨rfl, rfl, rfl, rfl, rfl⟩ rfl rfl rfl rfl rfl (by kernel_rfl) Try.func10 (by kernel_rfl)
    (of_decide_eq_true (by kernel_rfl)) (by unfold Func.isWrapper; first | (rw [if_pos (by decide +kernel)]; kernel_rfl) | (rw [if_neg (by decide +kernel)]; exact ⟨rfl, rfl⟩))
    (fun os started H enc _ => FnExactWriteReply_lifted os started H enc)

end Go.Proofs.Ythflpgckojnbmaa
