/- FieldMul of the program and of the specification both give the bytes of the least number of the product; the law FnExactFieldMul returns true of every two numbers, which read behind the call as before.
   Conditions: none. -/
import Derived.Test.YtjdckgnpocnifaaWrite2
open Go.Ab Go.Num
set_option linter.unusedVariables false
set_option linter.unusedSimpArgs false
namespace Go.Proofs.Ytjdckgnpocnifaa

def lm (k : Nat → Int) : Nat → Int := limbs (val 256 (wd (cellsI .u8 32 k)) 32)
def lc (k : Nat → Int) : Nat → Int := carE (wd (cellsI .u64 5 (lm k)))
def lmul (a b : Nat → Int) : Nat → Int := mulE (wd (cellsI .u64 5 (lc a))) (wd (cellsI .u64 5 (lc b)))

set_option maxRecDepth 100000 in
theorem r10 (M : Mem) (a b : Nat → Int) : evFC Try.prog M [loadSum 23, carrySum 24, opESum 25 mulE, bytesSum 26] [] 200 Try.f10 [.agg ⟨cellsI .u8 32 a⟩, .agg ⟨cellsI .u8 32 b⟩] [] []
   = some ((.agg ⟨bytesN (val B51 (wd (cellsI .u64 5 (lmul a b))) 5 % pF)⟩, [], []),
      [(rngB (cellsI .u8 32 a), true), (leB 9223372036854775807 (cellsI .u64 5 (lm a)), true), (rngB (cellsI .u8 32 b), true), (leB 9223372036854775807 (cellsI .u64 5 (lm b)), true),
       (leB RB (cellsI .u64 5 (lc a)) && leB RB (cellsI .u64 5 (lc b)), true), (leB 9223372036854775807 (cellsI .u64 5 (lmul a b)), true)]) := by kernel_rfl

def lr (k : Nat → Int) : Nat → Int := rdD (wd (cellsI .u8 32 k))
def dmul (a b : Nat → Int) : Nat → Int := mulD (wd (cellsI .i64 16 (lr a))) (wd (cellsI .i64 16 (lr b)))

set_option maxRecDepth 100000 in
theorem r8 (M : Mem) (a b : Nat → Int) : evFC Try.prog M [readSum 22, opDSum 21 mulD, writeSum 20] [] 200 Try.f8 [.agg ⟨cellsI .u8 32 a⟩, .agg ⟨cellsI .u8 32 b⟩] [] []
   = some ((.agg ⟨bytesN (val D16 (wd (cellsI .i64 16 (dmul a b))) 16 % pF)⟩, [], []),
      [(rngB (cellsI .u8 32 a), true), (rngB (cellsI .u8 32 b), true), (leB 65535 (cellsI .i64 16 (lr a)) && leB 65535 (cellsI .i64 16 (lr b)), true), (leB 65535 (cellsI .i64 16 (dmul a b)), true)]) := by kernel_rfl

def fieldSum (f : FuncId) : Sum :=
  { f := f, ro := true
    S := fun args os => match args, os with
      | [.agg ⟨A⟩, .agg ⟨B⟩], [] => if isB 32 A && isB 32 B then some (.agg ⟨bytesN (val 256 (wd A) 32 * val 256 (wd B) 32 % pF)⟩, [], []) else none
      | _, _ => none
    C := fun args _ => match args with
      | [.agg ⟨A⟩, .agg ⟨B⟩] => [(rngB A && rngB B, true)]
      | _ => [] }

theorem fieldSum_sound {M : Mem} {f : FuncId} {fn : Func} (hf : Try.prog.funcs[f]? = some fn) (hn : (fn.name == "runtime.NumGoroutine") = false) (hb : fn.body.isSome = true)
    (h : ∀ a b : Nat → Int, (∀ i, IntKind.u8.has (a i)) → (∀ i, IntKind.u8.has (b i)) → ACalls Try.prog M f [.agg ⟨cellsI .u8 32 a⟩, .agg ⟨cellsI .u8 32 b⟩] [] (.agg ⟨bytesN (val 256 a 32 * val 256 b 32 % pF)⟩) [] []) : (fieldSum f).SoundC Try.prog M := by
  refine sumC_sound hf hn hb fun args os v os' ns hs hp => ?_
  simp only [fieldSum] at hs hp ⊢
  split at hs
  · rename_i A B
    split at hs
    · rename_i hk
      cases hs
      simp only [Bool.and_eq_true] at hk
      have h1 : (rngB A && rngB B) = true := hp (rngB A && rngB B, true) (List.Mem.head _)
      simp only [Bool.and_eq_true] at h1
      have := h (wd A) (wd B) (rngB_wd h1.1) (rngB_wd h1.2)
      rw [← isB_eq hk.1, ← isB_eq hk.2] at this
      exact ⟨this, fun _ => rfl⟩
    · cases hs
  · cases hs

theorem v256_range {a : Nat → Int} (ha : ∀ i, IntKind.u8.has (a i)) : 0 ≤ val 256 a 32 ∧ val 256 a 32 < 115792089237316195423570985008687907853269984665640564039457584007913129639936 := by
  have := val_range (B := 256) (by decide) (u8_dg ha 32)
  exact this

theorem bd_wd {K : Int} {x : Nat → Int} (h : Bd K x) : Bd K (wd (cellsI .u64 5 x)) := fun i hi => by rw [wd_cellsI hi]; exact h i hi
theorem bd_le {K L : Int} (hKL : K ≤ L) {x : Nat → Int} (h : Bd K x) : leB L (cellsI .u64 5 x) = true := leB_iff.2 fun i hi => by have := h i hi; omega

/-- The limbs of a read number, carried. -/
theorem lm_bd {a : Nat → Int} (ha : ∀ i, IntKind.u8.has (a i)) : Bd 4503599627370496 (lm a) := by
  unfold lm
  rw [wd_val]
  exact limbs_bd (v256_range ha).1 (v256_range ha).2
theorem lc_bd {a : Nat → Int} (ha : ∀ i, IntKind.u8.has (a i)) : Bd RB (lc a) := carE_rb (bd_wd (bd_mono (by omega) (lm_bd ha)))
theorem lc_val (a : Nat → Int) : ∃ q, val B51 (lc a) 5 = val 256 a 32 + pF * q := by
  refine ⟨- car B51 (wd (cellsI .u64 5 (lm a))) 5, ?_⟩
  unfold lc
  rw [carE_val, wd_val]
  unfold lm
  rw [limbs_val, wd_val]
  grind

theorem field10 (M : Mem) : (fieldSum 10).SoundC Try.prog M := fieldSum_sound Try.func10 (by kernel_rfl) (by kernel_rfl) fun a b ha hb => by
  have ba := lc_bd ha
  have bb := lc_bd hb
  have bm : Bd RB (lmul a b) := mulE_bd (bd_wd ba) (bd_wd bb)
  have := acalls_of_evFC (consC (loadS23 M) (consC (carry24 M) (consC (mul25 M) (consC (bytesS26 M) nilC)))) mix Try.func10 (r10 M a b)
    (held_cons (rngB_cellsI ha) (held_cons (bd_le (by omega) (lm_bd ha)) (held_cons (rngB_cellsI hb) (held_cons (bd_le (by omega) (lm_bd hb)) (held_cons (by rw [bd_le (Int.le_refl _) ba, bd_le (Int.le_refl _) bb]; rfl) (held_one (bd_le (by decide) bm)))))))
  obtain ⟨qa, ea⟩ := lc_val a
  obtain ⟨qb, eb⟩ := lc_val b
  obtain ⟨q, e⟩ := mulE_val (wd (cellsI .u64 5 (lc a))) (wd (cellsI .u64 5 (lc b)))
  have : val B51 (wd (cellsI .u64 5 (lmul a b))) 5 % pF = val 256 a 32 * val 256 b 32 % pF := by
    rw [wd_val]
    unfold lmul
    rw [e, wd_val, wd_val, ea, eb]
    have : (val 256 a 32 + pF * qa) * (val 256 b 32 + pF * qb) + pF * q = val 256 a 32 * val 256 b 32 + pF * (val 256 a 32 * qb + qa * val 256 b 32 + pF * qa * qb + q) := by grind
    rw [this, Int.add_mul_emod_self_left]
  rename_i h0
  rw [this] at h0
  exact h0

theorem field8 (M : Mem) : (fieldSum 8).SoundC Try.prog M := fieldSum_sound Try.func8 (by kernel_rfl) (by kernel_rfl) fun a b ha hb => by
  have da : Dg 65536 16 (lr a) := rdD_dg (rngB_wd (rngB_cellsI ha)) 16
  have db : Dg 65536 16 (lr b) := rdD_dg (rngB_wd (rngB_cellsI hb)) 16
  have la : ∀ {x : Nat → Int}, Dg 65536 16 x → ∀ i, i < 16 → 0 ≤ wd (cellsI .i64 16 x) i ∧ wd (cellsI .i64 16 x) i ≤ 65535 := fun h i hi => by rw [wd_cellsI hi]; have := h i hi; omega
  have dm : Dg 65536 16 (dmul a b) := mulD_dg (la da) (la db)
  have h0 := acalls_of_evFC (consC (read22 M) (consC (mul21 M) (consC (writeS20 M) nilC))) mix Try.func8 (r8 M a b)
    (held_cons (rngB_cellsI ha) (held_cons (rngB_cellsI hb) (held_cons (by rw [le_dg da, le_dg db]; rfl) (held_one (le_dg dm)))))
  obtain ⟨q, e⟩ := mulD_val (wd (cellsI .i64 16 (lr a))) (wd (cellsI .i64 16 (lr b)))
  have ra : ∀ a, val D16 (lr a) 16 = val 256 a 32 := fun a => by unfold lr; rw [rdD_val, wd_val]
  have : val D16 (wd (cellsI .i64 16 (dmul a b))) 16 % pF = val 256 a 32 * val 256 b 32 % pF := by
    rw [wd_val]
    unfold dmul
    rw [e, wd_val, wd_val, ra, ra, Int.add_mul_emod_self_left]
  rw [this] at h0
  exact h0

set_option maxRecDepth 100000 in
theorem eq32 (M : Mem) : (eqSum 11 32).Sound Try.prog M := eqSum_sound mix Try.func11 (by kernel_rfl) (by kernel_rfl) (sym := [16]) (fuel := 1000) (fun x y => by kernel_rfl)
noncomputable def I9 (M : Mem) : Sum := inl Try.prog M (fns []) 1000 9 Try.f9
theorem I9_s (M : Mem) : (I9 M).Sound Try.prog M := inl_sound fns_nil mix Try.func9 (by kernel_rfl) (by kernel_rfl)

theorem k32 : flatK Try.prog 22 = some (List.replicate 32 (.int .u8)) := by kernel_rfl

noncomputable def L3 (M : Mem) : List Sum := [fieldSum 8, fieldSum 10, I9 M, eqSum 11 32]
theorem L3_sound (M : Mem) : ∀ s ∈ L3 M, s.SoundC Try.prog M := consC (field8 M) (consC (field10 M) (consC (I9_s M).c (consC (eq32 M).c nilC)))

def prodB (a b : Nat → Int) : List Value := bytesN (val 256 (wd (cellsI .u8 32 a)) 32 * val 256 (wd (cellsI .u8 32 b)) 32 % pF)
set_option maxRecDepth 100000 in
theorem r3 (M : Mem) (a b : Nat → Int) : evFC Try.prog M (L3 M) [20] 1000 Try.f3 [.agg ⟨cellsI .u8 32 a⟩, .agg ⟨cellsI .u8 32 b⟩] [] [false] =
   some ((.bool true, [], []), [(rngB (cellsI .u8 32 a) && rngB (cellsI .u8 32 b), true), (rngB (cellsI .u8 32 a) && rngB (cellsI .u8 32 b), true), (!eqB (prodB a b) (prodB a b), false)]) := by kernel_rfl

theorem eqB_bytes (N : Int) : eqB (bytesN N) (bytesN N) = true := eqB_cells _ _ _

theorem run3 (W : World) (base : Nat) (v0 : Value) (h0 : Value.okWide Try.prog W .any base 22 v0) {H : Type} {enc : TypeId × Value → H} {d : DataW H} {p : List MemPlace} (_ : DataW.Trod enc Try.prog W 0 (fun _ => true) true 22 v0 d p)
    (v1 : Value) (h1 : Value.okWide Try.prog W .any base 22 v1) {d1 : DataW H} {p1 : List MemPlace} (_ : DataW.Trod enc Try.prog W 0 (fun _ => true) true 22 v1 d1 p1) :
    groundL [v0, v1] = true ∧ ∃ ns, ACalls Try.prog (memOf W) 3 [v0, v1] [] (.bool true) [] ns := by
  obtain ⟨cs, rfl, hc⟩ := flat_ok k32 h0
  obtain ⟨cs1, rfl, hc1⟩ := flat_ok k32 h1
  refine ⟨by simp only [groundL, ground, groundA, hc.ground, hc1.ground, Bool.and_true], [], ?_⟩
  obtain ⟨x, rfl, hx⟩ := cvs_cells (by exact ⟨by decide, by decide⟩) hc
  obtain ⟨y, rfl, hy⟩ := cvs_cells (by exact ⟨by decide, by decide⟩) hc1
  have hxy : (rngB (cellsI .u8 32 x) && rngB (cellsI .u8 32 y)) = true := by rw [rngB_cellsI hx, rngB_cellsI hy]; rfl
  exact acalls_of_evFC (L3_sound _) mix Try.func3 (r3 _ x y) (held_cons hxy (held_cons hxy (held_one (by unfold prodB; rw [eqB_bytes]; rfl))))

set_option maxRecDepth 100000 in
theorem FnExactFieldMul_lifted (os : Os) (started : os.Started) (H : Type) (enc : TypeId × Value → H) :
    ReturnsInHanded {} Try.checked os 3 .any (Rows.fnExactFieldMulSpec.pre6 enc Try.prog Try.f3 Rows.fnExactFieldMulRow.domain false) (Rows.fnExactFieldMulSpec.post enc Try.prog Try.f3 false true false false) :=
  lifted own (by kernel_rfl) Try.func3 (tb := 4) (by kernel_rfl) Try.underlying4 (by kernel_rfl) rfl (fun H ds h => by
      obtain ⟨_, _, rfl⟩ := len2 (l := ds) (h.trans (by kernel_rfl)); rfl)
    (fun W base H enc args ds ps h hv => by
      rw [show Try.f3.params = _ from Try.params3] at h hv
      obtain ⟨v0, v1, d0, d1, p0, p1, rfl, rfl, rfl, h0, h1⟩ := Go.ChangeShapes.trodAll_two h
      exact run3 W base v0 (hv 0 _ v0 rfl rfl) h0 v1 (hv 1 _ v1 rfl rfl) h1) os started enc
    (ChangeSpec.witness6 (enc := enc) (C := Try.checked) false ⟨#[], #[(.agg (Array.replicate 32 (.int .u8 0))), (.agg (Array.replicate 32 (.int .u8 0)))], []⟩ 64 (by kernel_rfl) (by kernel_rfl) (by kernel_rfl) (by kernel_rfl))

set_option maxRecDepth 100000 in
/-- The statement. -/
theorem FnExactFieldMul_holds : Rows.FnExactFieldMulSaid :=
  OpenClaim.holds_of_wide 3 Try.f3 rfl rfl rfl rfl rfl rfl rfl ⟨rfl, rfl, rfl, rfl, rfl⟩ rfl rfl rfl rfl rfl (by kernel_rfl) Try.func3 (by kernel_rfl)
    (of_decide_eq_true (by kernel_rfl)) (by unfold Func.isWrapper; first | (rw [if_pos (by decide +kernel)]; kernel_rfl) | (rw [if_neg (by decide +kernel)]; exact ⟨rfl, rfl⟩))
    (fun os started H enc _ => FnExactFieldMul_lifted os started H enc)

end Go.Proofs.Ytjdckgnpocnifaa
