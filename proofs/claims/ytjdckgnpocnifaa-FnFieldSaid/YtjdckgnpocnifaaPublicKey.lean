/- The law FnExactPublicKey returns true of every private key and meter, which read behind the call as before.
   Conditions: none. -/
import Derived.Test.YtjdckgnpocnifaaScalarMult
open Go.Ab Go.Num
set_option linter.unusedVariables false
set_option linter.unusedSimpArgs false
namespace Go.Proofs.Ytjdckgnpocnifaa

def nine (i : Nat) : Int := bif Nat.beq i 0 then 9 else 0
theorem nine_range : ∀ i, IntKind.u8.has (nine i) := fun i => by unfold nine; cases Nat.beq i 0 <;> exact ⟨by decide, by decide⟩

def pkSum (f : FuncId) : Sum :=
  { f := f, ro := true
    S := fun args os => match args, os with
      | [.agg ⟨A⟩, .int .i64 m], [] => if isB 32 A then some (.tuple ⟨[.agg ⟨bytesN (smF (wd A) (uN (wd (cellsI .u8 32 nine))) % pF)⟩, .int .i64 (IntKind.i64.wrap (m + 1))]⟩, [], []) else none
      | _, _ => none
    C := fun args _ => match args with
      | [.agg ⟨A⟩, _] => [(rngB A, true)]
      | _ => [] }

set_option maxRecDepth 100000 in
theorem r16 (M : Mem) (a : Nat → Int) (m : Int) : evFC Try.prog M [smSum 14] [] 300 Try.f16 [.agg ⟨cellsI .u8 32 a⟩, .int .i64 m] [] [] =
   some ((.tuple ⟨[.agg ⟨bytesN (smF (wd (cellsI .u8 32 a)) (uN (wd (cellsI .u8 32 nine))) % pF)⟩, .int .i64 (IntKind.i64.wrap (m + 1))]⟩, [], []), [(rngB (cellsI .u8 32 a) && rngB (cellsI .u8 32 nine), true)]) := by kernel_rfl
set_option maxRecDepth 100000 in
theorem r17 (M : Mem) (a : Nat → Int) (m : Int) : evFC Try.prog M [smSum 15] [] 300 Try.f17 [.agg ⟨cellsI .u8 32 a⟩, .int .i64 m] [] [] =
   some ((.tuple ⟨[.agg ⟨bytesN (smF (wd (cellsI .u8 32 a)) (uN (wd (cellsI .u8 32 nine))) % pF)⟩, .int .i64 (IntKind.i64.wrap (m + 1))]⟩, [], []), [(rngB (cellsI .u8 32 a) && rngB (cellsI .u8 32 nine), true)]) := by kernel_rfl

theorem pkSum_sound {M : Mem} {f : FuncId} {fn : Func} (hf : Try.prog.funcs[f]? = some fn) (hn : (fn.name == "runtime.NumGoroutine") = false) (hb : fn.body.isSome = true)
    (h : ∀ (a : Nat → Int) (m : Int), Held [(rngB (cellsI .u8 32 a) && rngB (cellsI .u8 32 nine), true)] → ACalls Try.prog M f [.agg ⟨cellsI .u8 32 a⟩, .int .i64 m] []
      (.tuple ⟨[.agg ⟨bytesN (smF (wd (cellsI .u8 32 a)) (uN (wd (cellsI .u8 32 nine))) % pF)⟩, .int .i64 (IntKind.i64.wrap (m + 1))]⟩) [] []) : (pkSum f).SoundC Try.prog M := by
  refine sumC_sound hf hn hb fun args os v os' ns hs hp => ?_
  simp only [pkSum] at hs hp ⊢
  split at hs
  · rename_i A m
    split at hs
    · rename_i hk
      cases hs
      have h1 : rngB A = true := hp (rngB A, true) (List.Mem.head _)
      have := h (wd A) m (held_one (by rw [← isB_eq hk, h1, rngB_cellsI nine_range]; rfl))
      rw [← isB_eq hk] at this
      exact ⟨this, fun _ => rfl⟩
    · cases hs
  · cases hs

theorem pk16 (M : Mem) : (pkSum 16).SoundC Try.prog M := pkSum_sound Try.func16 (by kernel_rfl) (by kernel_rfl) fun a m hp => acalls_of_evFC (consC (sm14 M) nilC) mix Try.func16 (r16 M a m) hp
theorem pk17 (M : Mem) : (pkSum 17).SoundC Try.prog M := pkSum_sound Try.func17 (by kernel_rfl) (by kernel_rfl) fun a m hp => acalls_of_evFC (consC (sm15 M) nilC) mix Try.func17 (r17 M a m) hp

noncomputable def L6 (M : Mem) : List Sum := [pkSum 16, pkSum 17, I9 M, eqSum 11 32]
theorem L6_sound (M : Mem) : ∀ s ∈ L6 M, s.SoundC Try.prog M := consC (pk16 M) (consC (pk17 M) (consC (I9_s M).c (consC (eq32 M).c nilC)))

def pkB (a : Nat → Int) : List Value := bytesN (smF (wd (cellsI .u8 32 a)) (uN (wd (cellsI .u8 32 nine))) % pF)
set_option maxRecDepth 100000 in
theorem r6 (M : Mem) (a : Nat → Int) (m : Int) : evFC Try.prog M (L6 M) [26, 30] 1000 Try.f6 [.agg ⟨cellsI .u8 32 a⟩, .int .i64 m] [] [false, false] =
   some ((.bool true, [], []), [(rngB (cellsI .u8 32 a), true), (rngB (cellsI .u8 32 a), true), (!eqB (pkB a) (pkB a), false), (IntKind.i64.wrap (m + 1) != IntKind.i64.wrap (m + 1), false)]) := by kernel_rfl

theorem run6 (W : World) (base : Nat) (v0 : Value) (h0 : Value.okWide Try.prog W .any base 22 v0) {H : Type} {enc : TypeId × Value → H} {d : DataW H} {p : List MemPlace} (_ : DataW.Trod enc Try.prog W 0 (fun _ => true) true 22 v0 d p)
    (v1 : Value) (h1 : Value.okWide Try.prog W .any base 3 v1) {d1 : DataW H} {p1 : List MemPlace} (_ : DataW.Trod enc Try.prog W 0 (fun _ => true) true 3 v1 d1 p1) :
    groundL [v0, v1] = true ∧ ∃ ns, ACalls Try.prog (memOf W) 6 [v0, v1] [] (.bool true) [] ns := by
  obtain ⟨cs, rfl, hc⟩ := flat_ok k32 h0
  obtain ⟨m, rfl, _⟩ := value_ok (k := .int .i64) (by kernel_rfl) h1
  refine ⟨by simp only [groundL, ground, groundA, hc.ground, Bool.and_true], [], ?_⟩
  obtain ⟨x, rfl, hx⟩ := cvs_cells (by exact ⟨by decide, by decide⟩) hc
  exact acalls_of_evFC (L6_sound _) mix Try.func6 (r6 _ x m) (held_cons (rngB_cellsI hx) (held_cons (rngB_cellsI hx) (held_cons (by unfold pkB; rw [eqB_bytes]; rfl) (held_one (by simp)))))

set_option maxRecDepth 100000 in
theorem FnExactPublicKey_lifted (os : Os) (started : os.Started) (H : Type) (enc : TypeId × Value → H) :
    ReturnsInHanded {} Try.checked os 6 .any (Rows.fnExactPublicKeySpec.pre6 enc Try.prog Try.f6 Rows.fnExactPublicKeyRow.domain false) (Rows.fnExactPublicKeySpec.post enc Try.prog Try.f6 false true false false) :=
  lifted own (by kernel_rfl) Try.func6 (tb := 4) (by kernel_rfl) Try.underlying4 (by kernel_rfl) rfl (fun H ds h => by
      obtain ⟨_, _, rfl⟩ := len2 (l := ds) (h.trans (by kernel_rfl)); rfl)
    (fun W base H enc args ds ps h hv => by
      rw [show Try.f6.params = _ from Try.params6] at h hv
      obtain ⟨v0, v1, d0, d1, p0, p1, rfl, rfl, rfl, h0, h1⟩ := Go.ChangeShapes.trodAll_two h
      exact run6 W base v0 (hv 0 _ v0 rfl rfl) h0 v1 (hv 1 _ v1 rfl rfl) h1) os started enc
    (ChangeSpec.witness6 (enc := enc) (C := Try.checked) false ⟨#[], #[(.agg (Array.replicate 32 (.int .u8 0))), (.int .i64 0)], []⟩ 64 (by kernel_rfl) (by kernel_rfl) (by kernel_rfl) (by kernel_rfl))

set_option maxRecDepth 100000 in
/-- The statement. -/
theorem FnExactPublicKey_holds : Rows.FnExactPublicKeySaid :=
  OpenClaim.holds_of_wide 6 Try.f6 rfl rfl rfl rfl rfl rfl rfl ⟨rfl, rfl, rfl, rfl, rfl⟩ rfl rfl rfl rfl rfl (by kernel_rfl) Try.func6 (by kernel_rfl)
    (of_decide_eq_true (by kernel_rfl)) (by unfold Func.isWrapper; first | (rw [if_pos (by decide +kernel)]; kernel_rfl) | (rw [if_neg (by decide +kernel)]; exact ⟨rfl, rfl⟩))
    (fun os started H enc _ => FnExactPublicKey_lifted os started H enc)

end Go.Proofs.Ytjdckgnpocnifaa
