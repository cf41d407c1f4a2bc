/- The contract of a function that reads four bytes as a word, out of one evaluation.
   Conditions: the evaluation, which is named. -/
import Derived.Test.YtgnbmjhljlbkhaaGCha3
set_option linter.unusedVariables false
namespace Go.Num
open Go.Ab

/-- Four bytes lie there. -/
def four (cells : List Value) (f s : Nat) : Bool := Nat.beq cells.length s && (isI .u8 (atC cells f) && (isI .u8 (atC cells (f + 1)) && (isI .u8 (atC cells (f + 2)) && isI .u8 (atC cells (f + 3)))))

def wordSum (f : FuncId) : Sum :=
  { f := f, ro := true
    S := fun args os => match args, os with
      | [.slice (some ⟨0, f, some s⟩) 4 c], [⟨cells, g, e, true⟩] =>
        if four cells f s then some (.int .u32 (wordI (wd cells f) (wd cells (f + 1)) (wd cells (f + 2)) (wd cells (f + 3))), [⟨cells, g, e, true⟩], []) else none
      | _, _ => none }

theorem wordSum_sound {P : Program} {M : Mem} {f : FuncId} {fn : Func} (hf : P.funcs[f]? = some fn) (hn : (fn.name == "runtime.NumGoroutine") = false) (hb : fn.body.isSome = true)
    (h : ∀ (f1 s c e : Nat) (cells : List Value) (g : Bool), Held [(ldB .u8 ⟨cells, g, e, true⟩ s (f1 + 3), true), (ldB .u8 ⟨cells, g, e, true⟩ s (f1 + 2), true), (ldB .u8 ⟨cells, g, e, true⟩ s (f1 + 1), true), (ldB .u8 ⟨cells, g, e, true⟩ s f1, true)] →
      ACalls P M f [.slice (some ⟨0, f1, some s⟩) 4 c] [⟨cells, g, e, true⟩] (.int .u32 (wordI (wd cells f1) (wd cells (f1 + 1)) (wd cells (f1 + 2)) (wd cells (f1 + 3)))) [⟨cells, g, e, true⟩] []) : (wordSum f).SoundC P M := by
  refine sumC_sound hf hn hb fun args os v os' ns hs hp => ?_
  simp only [wordSum] at hs hp ⊢
  split at hs
  · rename_i f1 s c cells g e
    split at hs
    · rename_i hk
      cases hs
      simp only [four, Bool.and_eq_true] at hk
      obtain ⟨h0, h1, h2, h3, h4⟩ := hk
      have hl := Nat.eq_of_beq_eq_true h0
      refine ⟨h f1 s c e cells g ?_, fun _ => rfl⟩
      exact held_cons (by simp [ldB, hl, h4]) (held_cons (by simp [ldB, hl, h3]) (held_cons (by simp [ldB, hl, h2]) (held_one (by simp [ldB, hl, h1]))))
    · cases hs
  · cases hs

/-- The same, with what it asks for as a condition. -/
def wordSumP (f : FuncId) : Sum :=
  { f := f, ro := true
    S := fun args os => match args, os with
      | [.slice (some ⟨0, f, some s⟩) 4 c], [⟨cells, g, e, true⟩] => some (.int .u32 (wordI (wd cells f) (wd cells (f + 1)) (wd cells (f + 2)) (wd cells (f + 3))), [⟨cells, g, e, true⟩], [])
      | _, _ => none
    C := fun args os => match args, os with
      | [.slice (some ⟨0, f, some s⟩) 4 c], [⟨cells, g, e, true⟩] => [(four cells f s, true)]
      | _, _ => [] }

theorem wordSumP_sound {P : Program} {M : Mem} {f : FuncId} (h : (wordSum f).SoundC P M) : (wordSumP f).SoundC P M := by
  intro args os v os' ns hs hp
  simp only [wordSumP] at hs hp
  split at hs
  · rename_i f1 s c cells g e
    cases hs
    have hk : four cells f1 s = true := hp (four cells f1 s, true) (List.Mem.head _)
    refine h [.slice (some ⟨0, f1, some s⟩) 4 c] [⟨cells, g, e, true⟩] _ _ _ ?_ held_nil
    simp only [wordSum, hk, if_true]
  · cases hs

/-- Eight bytes as a word, as the program reads them. -/
def wordI64 (x : Nat → Int) (f : Nat) : Int :=
  bits .or .u64 (IntKind.u64.wrap (wordI (x f) (x (f + 1)) (x (f + 2)) (x (f + 3)))) (IntKind.u64.wrap (IntKind.u64.wrap (wordI (x (f + 4)) (x (f + 5)) (x (f + 6)) (x (f + 7))) * 2 ^ 32))

theorem val_one (B : Int) (x : Nat → Int) : val B x 1 = x 0 := by simp [val]

theorem wordI64_eq {x : Nat → Int} {f : Nat} (h : ∀ i, i < 8 → IntKind.u8.has (x (f + i))) : wordI64 x f = val 256 (fun i => x (f + i)) 8 := by
  have h0 := h 0 (by omega); have h1 := h 1 (by omega); have h2 := h 2 (by omega); have h3 := h 3 (by omega)
  have h4 := h 4 (by omega); have h5 := h 5 (by omega); have h6 := h 6 (by omega); have h7 := h 7 (by omega)
  simp only [Nat.add_zero] at h0
  unfold wordI64
  rw [wordI_eq h0 h1 h2 h3, wordI_eq h4 h5 h6 h7]
  have a := has_u32 (word_range h0 h1 h2 h3)
  have b := has_u32 (word_range h4 h5 h6 h7)
  have e0 : IntKind.u64.wrap (word (x f) (x (f + 1)) (x (f + 2)) (x (f + 3))) = word (x f) (x (f + 1)) (x (f + 2)) (x (f + 3)) := by rw [wrap_u64]; omega
  have e1 : IntKind.u64.wrap (IntKind.u64.wrap (word (x (f + 4)) (x (f + 5)) (x (f + 6)) (x (f + 7))) * 2 ^ 32) = word (x (f + 4)) (x (f + 5)) (x (f + 6)) (x (f + 7)) * 2 ^ 32 := by simp only [wrap_u64, Int.reducePow]; omega
  rw [e0, e1, or_comm64, or_add64 (by omega) (by omega) (by omega) (by omega) (by omega)]
  simp only [val, word, Nat.add_zero]
  omega

/-- Eight bytes lie there, in range. -/
def eightR (cells : List Value) (f s : Nat) : Bool := four cells f s && (four cells (f + 4) s && ((List.range 8).all fun i => hasB .u8 (wd cells (f + i))))

def word8Sum (f : FuncId) : Sum :=
  { f := f, ro := true
    S := fun args os => match args, os with
      | [.slice (some ⟨0, f, some s⟩) 8 c], [⟨cells, g, e, true⟩] => if (!g) || Nat.beq e 1 then some (.int .u64 (val 256 (fun i => wd cells (f + i)) 8), [⟨cells, g, e, true⟩], []) else none
      | _, _ => none
    C := fun args os => match args, os with
      | [.slice (some ⟨0, f, some s⟩) 8 c], [⟨cells, g, e, true⟩] => [(eightR cells f s, true), (Nat.ble 8 c, true)]
      | _, _ => [] }

theorem word8Sum_sound {P : Program} {M : Mem} {f : FuncId} {fn : Func} (hf : P.funcs[f]? = some fn) (hn : (fn.name == "runtime.NumGoroutine") = false) (hb : fn.body.isSome = true)
    (h : ∀ (f1 s c e : Nat) (cells : List Value), 8 ≤ c → four cells f1 s = true → four cells (f1 + 4) s = true →
      ACalls P M f [.slice (some ⟨0, f1, some s⟩) 8 c] [⟨cells, false, e, true⟩] (.int .u64 (wordI64 (wd cells) f1)) [⟨cells, false, e, true⟩] [])
    (h2 : ∀ (f1 s c : Nat) (cells : List Value), 8 ≤ c → four cells f1 s = true → four cells (f1 + 4) s = true →
      ACalls P M f [.slice (some ⟨0, f1, some s⟩) 8 c] [⟨cells, true, 1, true⟩] (.int .u64 (wordI64 (wd cells) f1)) [⟨cells, true, 1, true⟩] []) : (word8Sum f).SoundC P M := by
  refine sumC_sound hf hn hb fun args os v os' ns hs hp => ?_
  simp only [word8Sum] at hs hp ⊢
  split at hs
  · rename_i f1 s c cells g e
    split at hs
    · rename_i hge
      cases hs
      have hk : eightR cells f1 s = true := hp (eightR cells f1 s, true) (List.Mem.head _)
      have hc : Nat.ble 8 c = true := hp (Nat.ble 8 c, true) (List.Mem.tail _ (List.Mem.head _))
      simp only [eightR, Bool.and_eq_true, List.all_eq_true, List.mem_range] at hk
      obtain ⟨k1, k2, k3⟩ := hk
      refine ⟨?_, fun _ => rfl⟩
      rw [← wordI64_eq fun i hi => hasB_iff.1 (k3 i hi)]
      cases g with
      | false => exact h f1 s c e cells (Nat.le_of_ble_eq_true hc) k1 k2
      | true =>
        simp only [Bool.not_true, Bool.false_or] at hge
        have := Nat.eq_of_beq_eq_true hge
        subst this
        exact h2 f1 s c cells (Nat.le_of_ble_eq_true hc) k1 k2
    · cases hs
  · cases hs

end Go.Num
