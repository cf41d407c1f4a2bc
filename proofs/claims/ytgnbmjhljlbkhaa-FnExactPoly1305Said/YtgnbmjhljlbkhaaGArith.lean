/- Contracts of math/bits.Add64 (the model's own) and math/bits.Mul64 (the library's text, evaluated).
   Conditions: the numbers are in range. -/
import Derived.Test.YtgnbmjhljlbkhaaGWord
import Derived.Laws.MathBits
import Derived.Laws.Externs
set_option linter.unusedVariables false
namespace Go.Num
open Go.Ab

def T64 : Int := 18446744073709551616

def addB (x y c : Int) : Bool := hasB .u64 x && (hasB .u64 y && (decide (0 ≤ c) && decide (c ≤ 1)))
theorem addB_iff {x y c : Int} : addB x y c = true ↔ IntKind.u64.has x ∧ IntKind.u64.has y ∧ 0 ≤ c ∧ c ≤ 1 := by simp [addB, hasB_iff]

def add64Sum (f : FuncId) : Sum :=
  { f := f, ro := true
    S := fun args os => match args with
      | [.int .u64 x, .int .u64 y, .int .u64 c] => some (.tuple ⟨[.int .u64 ((x + y + c) % 18446744073709551616), .int .u64 ((x + y + c) / 18446744073709551616)]⟩, os, [])
      | _ => none
    C := fun args _ => match args with
      | [.int .u64 x, .int .u64 y, .int .u64 c] => [(addB x y c, true)]
      | _ => [] }

theorem add64Sum_sound {P : Program} {M : Mem} {f : FuncId} {fn : Func} (hf : P.funcs[f]? = some fn) (hname : (fn.name == "runtime.NumGoroutine") = false) (hb : fn.body.isNone = true) (hn : Extern.findNext fn = none) (he : Extern.find fn = some add64Entry) :
    (add64Sum f).SoundC P M := by
  intro args os v os' ns hs hp
  simp only [add64Sum] at hs hp
  split at hs
  · rename_i x y c
    cases hs
    have hc : addB x y c = true := hp (addB x y c, true) (List.Mem.head _)
    obtain ⟨h1, h2, h3, h4⟩ := addB_iff.1 hc
    refine ⟨.inr ⟨rfl, rfl, fun m w args' r hargs => ?_⟩, fun _ => rfl⟩
    have e : args' = #[.int .u64 x, .int .u64 y, .int .u64 c] := by
      have := hargs.eq rfl
      cases args'
      simp_all
    subst e
    refine ⟨_, ?_, .same rfl⟩
    show (callFunc f #[.int .u64 x, .int .u64 y, .int .u64 c]).run P w = _
    rw [run_callFunc_extern hf hname hb hn he, run_add64 x y c (has_u64 h1).1 (has_u64 h2).1 h3 h4]
    rfl
  · cases hs

def mul64Sum (f : FuncId) : Sum :=
  { f := f, ro := true
    S := fun args os => match args, os with
      | [.int .u64 x, .int .u64 y], [] => some (.tuple ⟨[.int .u64 (x * y / 18446744073709551616), .int .u64 (x * y % 18446744073709551616)]⟩, [], [])
      | _, _ => none
    C := fun args _ => match args with
      | [.int .u64 x, .int .u64 y] => [(hasB .u64 x && hasB .u64 y, true)]
      | _ => [] }

/-- The high half as the library's text computes it. -/
def mulHi (x y : Int) : Int :=
  let m := fun a => bits .and .u64 a 4294967295
  let w := IntKind.u64.wrap
  let s := fun a : Int => a.fdiv (2 ^ 32)
  let t := w (w (s x * m y) + s (w (m x * m y)))
  w (w (w (s x * s y) + s t) + s (w (m t + w (m x * s y))))

theorem mulHi_eq {x y : Int} (hx : IntKind.u64.has x) (hy : IntKind.u64.has y) : mulHi x y = x * y / 18446744073709551616 := by
  obtain ⟨x1, x2⟩ := has_u64 hx
  obtain ⟨y1, y2⟩ := has_u64 hy
  have ww : ∀ a, 0 ≤ IntKind.u64.wrap a ∧ IntKind.u64.wrap a < 18446744073709551616 := fun a => by rw [wrap_u64]; omega
  have m : ∀ a : Int, 0 ≤ a → a < 18446744073709551616 → bits .and .u64 a 4294967295 = a % 4294967296 := fun a h1 h2 => and_mask64 (k := 32) h1 h2 (by omega)
  have s : ∀ a : Int, a.fdiv (2 ^ 32) = a / 4294967296 := fun a => Int.fdiv_eq_ediv_of_nonneg _ (by decide)
  have key := mul64_arith x y x1 (by omega) y1 (by omega)
  simp only [mulHi, s, m x x1 (by omega), m y y1 (by omega), m _ (ww _).1 (ww _).2]
  simp only [wrap_u64]
  exact key

theorem mul64Sum_sound {P : Program} {M : Mem} {f : FuncId} {fn : Func} (hf : P.funcs[f]? = some fn) (hn : (fn.name == "runtime.NumGoroutine") = false) (hb : fn.body.isSome = true)
    (h : ∀ x y : Int, ACalls P M f [.int .u64 x, .int .u64 y] [] (.tuple ⟨[.int .u64 (mulHi x y), .int .u64 (IntKind.u64.wrap (x * y))]⟩) [] []) : (mul64Sum f).SoundC P M := by
  refine sumC_sound hf hn hb fun args os v os' ns hs hp => ?_
  simp only [mul64Sum] at hs hp ⊢
  split at hs
  · rename_i x y
    cases hs
    have hc : (hasB .u64 x && hasB .u64 y) = true := hp (hasB .u64 x && hasB .u64 y, true) (List.Mem.head _)
    simp only [Bool.and_eq_true, hasB_iff] at hc
    have := h x y
    rw [mulHi_eq hc.1 hc.2, wrap_u64] at this
    exact ⟨this, fun _ => rfl⟩
  · cases hs

end Go.Num
