/- The contract of a function that reads four bytes as a word, out of one evaluation.
   Conditions: the evaluation, which is named. -/
import Derived.Test.YtgnbmjhljlbkhaaDoorGCha3
set_option linter.unusedVariables false
namespace Go.Num
open Go.Ab

/-- Four bytes lie there. -/
def four (cells : List Value) (f s : Nat) : Bool := Nat.beq cells.length s && (isI .u8 (atC cells f) && (isI .u8 (atC cells (f + 1)) && (isI .u8 (atC cells (f + 2)) && isI .u8 (atC cells (f + 3)))))

def wordSum (f : FuncId) : Sum :=
  { f := f, ro := true
    S := fun args os => match args, os with
      | [.slice (some ⟨0, f, some s⟩) 4 c], [⟨cells, g, e, true⟩] =>
        if four cells f s then some (.int .u32 (wordI (wd cells f) (wd cells (f + 1)) (wd cells (f + 2)) (wd cells (f + 3))), [⟨cells, g, e, true⟩], []) else none
      | _, _ => none }

theorem wordSum_sound {P : Program} {M : Mem} {f : FuncId} {fn : Func} (hf : P.funcs[f]? = some fn) (hn : (fn.name == "runtime.NumGoroutine") = false) (hb : fn.body.isSome = true)
    (h : ∀ (f1 s c e : Nat) (cells : List Value) (g : Bool), Held [(ldB .u8 ⟨cells, g, e, true⟩ s (f1 + 3), true), (ldB .u8 ⟨cells, g, e, true⟩ s (f1 + 2), true), (ldB .u8 ⟨cells, g, e, true⟩ s (f1 + 1), true), (ldB .u8 ⟨cells, g, e, true⟩ s f1, true)] →
      ACalls P M f [.slice (some ⟨0, f1, some s⟩) 4 c] [⟨cells, g, e, true⟩] (.int .u32 (wordI (wd cells f1) (wd cells (f1 + 1)) (wd cells (f1 + 2)) (wd cells (f1 + 3)))) [⟨cells, g, e, true⟩] []) : (wordSum f).SoundC P M := by
  refine sumC_sound hf hn hb fun args os v os' ns hs hp => ?_
  simp only [wordSum] at hs hp ⊢
  split at hs
  · rename_i f1 s c cells g e
    split at hs
    · rename_i hk
      cases hs
      simp only [four, Bool.and_eq_true] at hk
      obtain ⟨h0, h1, h2, h3, h4⟩ := hk
      have hl := Nat.eq_of_beq_eq_true h0
      refine ⟨h f1 s c e cells g ?_, fun _ => rfl⟩
      exact held_cons (by simp [ldB, hl, h4]) (held_cons (by simp [ldB, hl, h3]) (held_cons (by simp [ldB, hl, h2]) (held_one (by simp [ldB, hl, h1]))))
    · cases hs
  · cases hs

end Go.Num
