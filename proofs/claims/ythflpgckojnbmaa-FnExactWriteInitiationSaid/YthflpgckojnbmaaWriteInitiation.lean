/- The law FnExactWriteInitiation returns true of every initiation, which reads behind the call as before.
   Conditions: none. -/
import Derived.Test.YthflpgckojnbmaaWriteReply
open Go.Ab
set_option linter.unusedVariables false
set_option linter.unusedSimpArgs false
namespace Go.Proofs.Ythflpgckojnbmaa

noncomputable def I42 (M : Mem) : Sum := inl Try.prog M (fns []) 1000 42 Try.f42
theorem I42_s (M : Mem) : (I42 M).Sound Try.prog M := inl_sound fns_nil mix Try.func42 (by kernel_rfl) (by kernel_rfl)
noncomputable def I51 (M : Mem) : Sum := inl Try.prog M (fns []) 1000 51 Try.f51
theorem I51_s (M : Mem) : (I51 M).Sound Try.prog M := inl_sound fns_nil mix Try.func51 (by kernel_rfl) (by kernel_rfl)
noncomputable def I52 (M : Mem) : Sum := inl Try.prog M (fns []) 1000 52 Try.f52
theorem I52_s (M : Mem) : (I52 M).Sound Try.prog M := inl_sound fns_nil mix Try.func52 (by kernel_rfl) (by kernel_rfl)
noncomputable def I38 (M : Mem) : Sum := inl Try.prog M (fns [I48 M, I51 M, I52 M, I42 M]) 1000 38 Try.f38
theorem I38_s (M : Mem) : (I38 M).Sound Try.prog M := inl_sound (fns_sound (fns_cons (I48_s M) (fns_cons (I51_s M) (fns_cons (I52_s M) (fns_cons (I42_s M) (by simp)))))) mix Try.func38 (by kernel_rfl) (by kernel_rfl)
noncomputable def I50 (M : Mem) : Sum := inl Try.prog M (fns [I54 M]) 1000 50 Try.f50
theorem I50_s (M : Mem) : (I50 M).Sound Try.prog M := inl_sound (fns_sound (fns_cons (I54_s M) (by simp))) mix Try.func50 (by kernel_rfl) (by kernel_rfl)
noncomputable def I37 (M : Mem) : Sum := inl Try.prog M (fns [I50 M]) 3000 37 Try.f37
theorem I37_s (M : Mem) : (I37 M).Sound Try.prog M := inl_sound (fns_sound (fns_cons (I50_s M) (by simp))) mix Try.func37 (by kernel_rfl) (by kernel_rfl)
noncomputable def I39 (M : Mem) : Sum := inl Try.prog M (fns [I49 M]) 1000 39 Try.f39
theorem I39_s (M : Mem) : (I39 M).Sound Try.prog M := inl_sound (fns_sound (fns_cons (I49_s M) (by simp))) mix Try.func39 (by kernel_rfl) (by kernel_rfl)

theorem kInit : flatK Try.prog 68 = some (.int .u32 :: (List.replicate 32 (.int .u8) ++ (List.replicate 48 (.int .u8) ++ (List.replicate 28 (.int .u8) ++ (List.replicate 16 (.int .u8) ++ List.replicate 16 (.int .u8)))))) := by kernel_rfl

noncomputable def L11 (M : Mem) : List Sum := [I38 M, I37 M, I39 M, eqSum 40 148]
theorem L11_sound (M : Mem) : ∀ s ∈ L11 M, s.SoundC Try.prog M := consC (I38_s M).c (consC (I37_s M).c (consC (I39_s M).c (consC (eq148 M).c nilC)))

set_option maxRecDepth 100000 in
theorem run11a (M : Mem) (v : Int) (a b c d e : Nat → Int) : evFC Try.prog M (L11 M) [14] 1000 Try.f11 [.agg ⟨.int .u32 v :: (cellsI .u8 32 a ++ (cellsI .u8 48 b ++ (cellsI .u8 28 c ++ (cellsI .u8 16 d ++ cellsI .u8 16 e))))⟩] [] [false] =
   some ((.bool true, [], []), [(!eqB (([1, 0, 0, 0] ++ lay4 v ++ (List.range 32).map a ++ (List.range 48).map b ++ (List.range 28).map c ++ (List.range 16).map d ++ (List.range 16).map e).map (.int .u8))
     (([1, 0, 0, 0] ++ word4 v ++ (List.range 32).map a ++ (List.range 48).map b ++ (List.range 28).map c ++ (List.range 16).map d ++ (List.range 16).map e).map (.int .u8)), false)]) := by kernel_rfl

theorem run11 (W : World) (base : Nat) (v0 : Value) (h0 : Value.okWide Try.prog W .any base 68 v0) {H : Type} {enc : TypeId × Value → H} {d : DataW H} {p : List MemPlace} (_ : DataW.Trod enc Try.prog W 0 (fun _ => true) true 68 v0 d p) :
    groundL [v0] = true ∧ ∃ ns, ACalls Try.prog (memOf W) 11 [v0] [] (.bool true) [] ns := by
  obtain ⟨cs, rfl, hc⟩ := flat_ok kInit h0
  refine ⟨by simp only [groundL, ground, groundA, hc.ground, Bool.and_true], [], ?_⟩
  obtain ⟨_, us, rfl, ⟨v, rfl, hv⟩, hc2⟩ := cvs_cons hc
  obtain ⟨u1, _, rfl, h1, h2⟩ := cvs_append hc2
  obtain ⟨a, rfl, _⟩ := cvs_cells (by exact ⟨by decide, by decide⟩) h1
  obtain ⟨u1, _, rfl, h1, h3⟩ := cvs_append h2
  obtain ⟨b, rfl, _⟩ := cvs_cells (by exact ⟨by decide, by decide⟩) h1
  obtain ⟨u1, _, rfl, h1, h4⟩ := cvs_append h3
  obtain ⟨c, rfl, _⟩ := cvs_cells (by exact ⟨by decide, by decide⟩) h1
  obtain ⟨u1, _, rfl, h1, h5⟩ := cvs_append h4
  obtain ⟨d, rfl, _⟩ := cvs_cells (by exact ⟨by decide, by decide⟩) h1
  obtain ⟨e, rfl, _⟩ := cvs_cells (by exact ⟨by decide, by decide⟩) h5
  exact acalls_of_evFC (L11_sound _) mix Try.func11 (run11a _ v a b c d e) (held_one (by rw [word4_eq hv, eqB_self]; rfl))

set_option maxRecDepth 100000 in
theorem FnExactWriteInitiation_lifted (os : Os) (started : os.Started) (H : Type) (enc : TypeId × Value → H) :
    ReturnsInHanded {} Try.checked os 11 .any (Rows.fnExactWriteInitiationSpec.pre6 enc Try.prog Try.f11 Rows.fnExactWriteInitiationRow.domain false) (Rows.fnExactWriteInitiationSpec.post enc Try.prog Try.f11 false true false false) :=
  lifted own (by kernel_rfl) Try.func11 (tb := 4) (by kernel_rfl) Try.underlying4 (by kernel_rfl) rfl (fun H ds h => by
      obtain ⟨_, rfl⟩ := len1 (l := ds) (h.trans (by kernel_rfl)); rfl)
    (fun W base H enc args ds ps h hv => by
      rw [show Try.f11.params = _ from Try.params11] at h hv
      obtain ⟨v0, d0, rfl, rfl, h0⟩ := Go.ChangeShapes.trodAll_one h
      exact run11 W base v0 (hv 0 _ v0 rfl rfl) h0) os started enc
    (ChangeSpec.witness6 (enc := enc) (C := Try.checked) false ⟨#[], #[(.agg (#[.int .u32 0] ++ Array.replicate 140 (.int .u8 0)))], []⟩ 64 (by kernel_rfl) (by kernel_rfl) (by kernel_rfl) (by kernel_rfl))

set_option maxRecDepth 100000 in
/-- The statement. -/
theorem FnExactWriteInitiation_holds : Rows.FnExactWriteInitiationSaid :=
  OpenClaim.holds_of_wide 11 Try.f11 rfl rfl rfl rfl rfl rfl rfl ⟨rfl, rfl, rfl, rfl, rfl⟩ rfl rfl rfl rfl rfl (by kernel_rfl) Try.func11 (by kernel_rfl)
    (of_decide_eq_true (by kernel_rfl)) (by unfold Func.isWrapper; first | (rw [if_pos (by decide +kernel)]; kernel_rfl) | (rw [if_neg (by decide +kernel)]; exact ⟨rfl, rfl⟩))
    (fun os started H enc _ => FnExactWriteInitiation_lifted os started H enc)

end Go.Proofs.Ythflpgckojnbmaa
