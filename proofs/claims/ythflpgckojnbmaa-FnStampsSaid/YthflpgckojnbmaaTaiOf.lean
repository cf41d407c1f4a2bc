/- The law FnExactTaiOf returns true of every clock, which reads behind the call as before.
   Conditions: none. -/
import Derived.Test.YthflpgckojnbmaaAbB
import Derived.Test.YthflpgckojnbmaaBase
open Go.Ab
set_option linter.unusedVariables false
set_option linter.unusedSimpArgs false
namespace Go.Proofs.Ythflpgckojnbmaa

/-- What impl.TaiOf lays into byte i. -/
def taiRaw (n : Int) (i : Nat) : Int :=
  match Nat.blt i 8 with
  | true => IntKind.wrap .u8 ((IntKind.wrap .u64 (4611686018427387914 + IntKind.wrap .u64 (IntKind.wrap .i64 ((if 0 > n then 0 else n).tdiv 1000000000)))).fdiv (2 ^ (56 - 8 * i)))
  | false => IntKind.wrap .u8 ((IntKind.wrap .u32 ((if 0 > n then 0 else n).tmod 1000000000)).fdiv (2 ^ (24 - 8 * (i - 8))))

set_option maxRecDepth 100000 in
theorem run20 (M : Mem) (n : Int) : evFT Try.prog M (fns []) [] 1000 Try.f20 [.int .i64 n] [] = some (.agg ⟨cellsI .u8 12 (taiRaw n)⟩, [], []) := by kernel_rfl

def vdiv (v : Int) : Nat → Int
  | 0 => v
  | j + 1 => IntKind.wrap .i64 ((vdiv v j).tdiv 256)

/-- What spec.TaiOf lays into byte i, of a clock t that is not negative. -/
def taiSpec (t : Int) (i : Nat) : Int :=
  match Nat.blt i 8 with
  | true => IntKind.wrap .u8 ((vdiv (IntKind.wrap .i64 (4611686018427387914 + IntKind.wrap .i64 (t.tdiv 1000000000))) (7 - i)).tmod 256)
  | false => IntKind.wrap .u8 ((vdiv (t.tmod 1000000000) (11 - i)).tmod 256)

noncomputable def L19 (M : Mem) : List Sum := [inl Try.prog M (fns []) 1000 43 Try.f43, inl Try.prog M (fns []) 1000 44 Try.f44]
theorem L19_sound (M : Mem) : ∀ s ∈ L19 M, s.SoundC Try.prog M := consC (inl_sound fns_nil mix Try.func43 (by kernel_rfl) (by kernel_rfl)).c (consC (inl_sound fns_nil mix Try.func44 (by kernel_rfl) (by kernel_rfl)).c nilC)

set_option maxRecDepth 100000 in
theorem run19p (M : Mem) (n : Int) : evFC Try.prog M (L19 M) [7] 1000 Try.f19 [.int .i64 n] [] [false] = some ((.agg ⟨cellsI .u8 12 (taiSpec n)⟩, [], []), [(decide (n < 0), false)]) := by kernel_rfl
set_option maxRecDepth 100000 in
theorem run19n (M : Mem) (n : Int) : evFC Try.prog M (L19 M) [7] 1000 Try.f19 [.int .i64 n] [] [true] = some ((.agg ⟨cellsI .u8 12 (taiSpec 0)⟩, [], []), [(decide (n < 0), true)]) := by kernel_rfl

theorem vdiv_eq {v : Int} (h1 : 0 ≤ v) (h2 : v ≤ 9223372036854775807) : ∀ j, vdiv v j = v / 256 ^ j ∧ 0 ≤ v / 256 ^ j ∧ v / 256 ^ j ≤ 9223372036854775807 := by
  intro j
  induction j with
  | zero => simp [vdiv, h1, h2]
  | succ j ih =>
    obtain ⟨e, h3, h4⟩ := ih
    have h5 : v / 256 ^ (j + 1) = v / 256 ^ j / 256 := by rw [Int.pow_succ, Int.ediv_ediv_of_nonneg (Int.pow_nonneg (by decide))]
    have h6 : (v / 256 ^ j).tdiv 256 = v / 256 ^ j / 256 := Int.tdiv_eq_ediv_of_nonneg h3
    refine ⟨?_, by rw [h5]; omega, by rw [h5]; omega⟩
    rw [vdiv, e, h6, wrap_i64 (by omega) (by omega), h5]

theorem pow256 : ∀ j : Nat, (256 : Int) ^ j = 2 ^ (8 * j) := by
  intro j
  rw [show (256 : Int) = 2 ^ 8 by decide, ← Int.pow_mul]

theorem taiSpec_eq {n t : Int} (h : IntKind.i64.has n) (ht : t = if 0 > n then 0 else n) : ∀ i, i < 12 → taiSpec t i = taiRaw n i := by
  intro i hi
  obtain ⟨h1, h2⟩ := has_i64 h
  have t1 : 0 ≤ t := by subst ht; split <;> omega
  have t2 : t ≤ 9223372036854775807 := by subst ht; split <;> omega
  unfold taiSpec taiRaw
  rw [← ht]
  have q1 : t.tdiv 1000000000 = t / 1000000000 := Int.tdiv_eq_ediv_of_nonneg t1
  have q2 : t.tmod 1000000000 = t % 1000000000 := Int.tmod_eq_emod_of_nonneg t1
  rw [q1, q2]
  have b1 : 0 ≤ t / 1000000000 := by omega
  have b2 : t / 1000000000 ≤ 9223372036 := by omega
  rw [wrap_i64 (n := t / 1000000000) (by omega) (by omega), wrap_i64 (n := 4611686018427387914 + t / 1000000000) (by omega) (by omega)]
  have w1 : IntKind.wrap .u64 (t / 1000000000) = t / 1000000000 := by rw [wrap_u64]; omega
  have w2 : IntKind.wrap .u64 (4611686018427387914 + t / 1000000000) = 4611686018427387914 + t / 1000000000 := by rw [wrap_u64]; omega
  have w3 : IntKind.wrap .u32 (t % 1000000000) = t % 1000000000 := by rw [wrap_u32]; omega
  rw [w1, w2, w3]
  have key : ∀ (v : Int) (j e : Nat), 0 ≤ v → v ≤ 9223372036854775807 → e = 8 * j → IntKind.wrap .u8 ((vdiv v j).tmod 256) = IntKind.wrap .u8 (v.fdiv (2 ^ e)) := by
    intro v j e hv hv2 he
    obtain ⟨e1, e2, _⟩ := vdiv_eq hv hv2 j
    rw [e1, Int.tmod_eq_emod_of_nonneg e2, pow256, ← he, Int.fdiv_eq_ediv_of_nonneg _ (Int.pow_nonneg (by decide)), wrap_u8, wrap_u8]
    omega
  cases hb : Nat.blt i 8 with
  | true =>
    have : i < 8 := by simpa [Nat.blt_eq] using hb
    exact key _ _ _ (by omega) (by omega) (by omega)
  | false =>
    have : ¬ i < 8 := fun hh => by rw [show Nat.blt i 8 = true by simpa [Nat.blt_eq] using hh] at hb; cases hb
    exact key _ _ _ (by omega) (by omega) (by omega)

/-- Both, at a clock that fits. -/
def taiSum (f : FuncId) : Sum :=
  { f := f, ro := true
    S := fun args os => match args, os with
      | [.int .i64 n], [] => some (.agg ⟨cellsI .u8 12 (taiRaw n)⟩, [], [])
      | _, _ => none
    C := fun args os => match args with
      | [.int _ n] => [(hasB .i64 n, true)]
      | _ => [] }

theorem taiSum_sound {M : Mem} {f : FuncId} {fn : Func} (hf : Try.prog.funcs[f]? = some fn) (hn : (fn.name == "runtime.NumGoroutine") = false) (hb : fn.body.isSome = true)
    (h : ∀ n : Int, IntKind.i64.has n → ACalls Try.prog M f [.int .i64 n] [] (.agg ⟨cellsI .u8 12 (taiRaw n)⟩) [] []) : (taiSum f).SoundC Try.prog M := by
  refine sumC_sound hf hn hb fun args os v os' ns hs hp => ?_
  simp only [taiSum] at hs hp ⊢
  split at hs
  · rename_i n
    cases hs
    exact ⟨h n (hasB_iff.1 (hp (hasB .i64 n, true) (List.Mem.head _))), fun _ => rfl⟩
  · cases hs

theorem tai20 (M : Mem) : (taiSum 20).SoundC Try.prog M := taiSum_sound Try.func20 (by kernel_rfl) (by kernel_rfl) fun n _ => acalls_of_evFT fns_nil mix Try.func20 (run20 M n)
theorem tai19 (M : Mem) : (taiSum 19).SoundC Try.prog M := taiSum_sound Try.func19 (by kernel_rfl) (by kernel_rfl) fun n hn => by
  by_cases h0 : n < 0
  · rw [← cellsI_congr (taiSpec_eq hn (t := 0) (by rw [if_pos h0]))]
    exact acalls_of_evFC (L19_sound M) mix Try.func19 (run19n M n) (held_one (by simpa using h0))
  · rw [← cellsI_congr (taiSpec_eq hn (t := n) (by rw [if_neg h0]))]
    exact acalls_of_evFC (L19_sound M) mix Try.func19 (run19p M n) (held_one (by simpa using h0))

noncomputable def L6 (M : Mem) : List Sum := [taiSum 19, taiSum 20, eqSum 21 12]
theorem L6_sound (M : Mem) : ∀ s ∈ L6 M, s.SoundC Try.prog M := consC (tai19 M) (consC (tai20 M) (consC (eq12 M).c nilC))

set_option maxRecDepth 100000 in
theorem run6a (M : Mem) (n : Int) : evFC Try.prog M (L6 M) [12] 1000 Try.f6 [.int .i64 n] [] [false] =
   some ((.bool true, [], []), [(hasB .i64 n, true), (hasB .i64 n, true), (!eqB (cellsI .u8 12 (taiRaw n)) (cellsI .u8 12 (taiRaw n)), false)]) := by kernel_rfl

theorem run6 (W : World) (base : Nat) (v0 : Value) (h0 : Value.okWide Try.prog W .any base 3 v0) {H : Type} {enc : TypeId × Value → H} {d : DataW H} {p : List MemPlace} (_ : DataW.Trod enc Try.prog W 0 (fun _ => true) true 3 v0 d p) :
    groundL [v0] = true ∧ ∃ ns, ACalls Try.prog (memOf W) 6 [v0] [] (.bool true) [] ns := by
  obtain ⟨n, rfl, hn⟩ := value_ok (k := .int .i64) (by kernel_rfl) h0
  exact ⟨rfl, [], acalls_of_evFC (L6_sound _) mix Try.func6 (run6a _ n) (held_cons (hasB_iff.2 hn) (held_cons (hasB_iff.2 hn) (held_one (by rw [eqB_cells]; rfl))))⟩

set_option maxRecDepth 100000 in
theorem FnExactTaiOf_lifted (os : Os) (started : os.Started) (H : Type) (enc : TypeId × Value → H) :
    ReturnsInHanded {} Try.checked os 6 .any (Rows.fnExactTaiOfSpec.pre6 enc Try.prog Try.f6 Rows.fnExactTaiOfRow.domain false) (Rows.fnExactTaiOfSpec.post enc Try.prog Try.f6 false true false false) :=
  lifted own (by kernel_rfl) Try.func6 (tb := 4) (by kernel_rfl) Try.underlying4 (by kernel_rfl) rfl (fun H ds h => by
      obtain ⟨_, rfl⟩ := len1 (l := ds) (h.trans (by kernel_rfl)); rfl)
    (fun W base H enc args ds ps h hv => by
      rw [show Try.f6.params = _ from Try.params6] at h hv
      obtain ⟨v0, d0, rfl, rfl, h0⟩ := Go.ChangeShapes.trodAll_one h
      exact run6 W base v0 (hv 0 _ v0 rfl rfl) h0) os started enc
    (ChangeSpec.witness6 (enc := enc) (C := Try.checked) false ⟨#[], #[(.int .i64 0)], []⟩ 64 (by kernel_rfl) (by kernel_rfl) (by kernel_rfl) (by kernel_rfl))

set_option maxRecDepth 100000 in
/-- The statement. -/
theorem FnExactTaiOf_holds : Rows.FnExactTaiOfSaid :=
  OpenClaim.holds_of_wide 6 Try.f6 rfl rfl rfl rfl rfl rfl rfl ⟨rfl, rfl, rfl, rfl, rfl⟩ rfl rfl rfl rfl rfl (by kernel_rfl) Try.func6 (by kernel_rfl)
    (of_decide_eq_true (by kernel_rfl)) (by unfold Func.isWrapper; first | (rw [if_pos (by decide +kernel)]; kernel_rfl) | (rw [if_neg (by decide +kernel)]; exact ⟨rfl, rfl⟩))
    (fun os started H enc _ => FnExactTaiOf_lifted os started H enc)

end Go.Proofs.Ythflpgckojnbmaa
