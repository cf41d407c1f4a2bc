/- Contracts of the functions that give a block and a derived key.
   Conditions: the evaluations, which are named. -/
import Derived.Test.YtgnbmjhljlbkhaaGWord
set_option linter.unusedVariables false
namespace Go.Num
open Go.Ab

def isB (n : Nat) (cells : List Value) : Bool := Nat.beq cells.length n && cells.all (isI .u8)
def rngB (cells : List Value) : Bool := cells.all fun v => hasB .u8 (vint v)

theorem isB_eq {n : Nat} {cells : List Value} (h : isB n cells = true) : cells = cellsI .u8 n (wd cells) := by
  simp only [isB, Bool.and_eq_true] at h
  have := cellsI_wd h.2
  rwa [Nat.eq_of_beq_eq_true h.1] at this

theorem rngB_wd {cells : List Value} (h : rngB cells = true) (i : Nat) : IntKind.u8.has (wd cells i) := by
  unfold wd atC
  by_cases hi : i < cells.length
  · rw [List.getElem?_eq_getElem hi, Option.getD_some]
    exact hasB_iff.1 (List.all_eq_true.1 h _ (List.getElem_mem hi))
  · rw [List.getElem?_eq_none (by omega)]
    exact (show IntKind.u8.has 0 from ⟨by decide, by decide⟩)

theorem rngB_cellsI {n : Nat} {x : Nat → Int} (h : ∀ i, IntKind.u8.has (x i)) : rngB (cellsI .u8 n x) = true := by
  unfold rngB
  rw [List.all_eq_true]
  intro v hv
  simp only [cellsI, List.mem_map] at hv
  obtain ⟨i, _, rfl⟩ := hv
  exact hasB_iff.2 (h i)

def chaSum (f : FuncId) : Sum :=
  { f := f, ro := true
    S := fun args os => match args, os with
      | [.agg ⟨kc⟩, .int .u32 c, .agg ⟨nc⟩], [] => if isB 32 kc && isB 12 nc then some (.agg ⟨blockF (wd kc) c (wd nc)⟩, [], []) else none
      | _, _ => none
    C := fun args _ => match args with
      | [.agg ⟨kc⟩, .int .u32 c, .agg ⟨nc⟩] => [(rngB kc, true), (rngB nc, true)]
      | _ => [] }

theorem chaSum_sound {P : Program} {M : Mem} {f : FuncId} {fn : Func} (hf : P.funcs[f]? = some fn) (hn : (fn.name == "runtime.NumGoroutine") = false) (hb : fn.body.isSome = true)
    (h : ∀ (k : Nat → Int) (c : Int) (n : Nat → Int), (∀ i, IntKind.u8.has (k i)) → (∀ i, IntKind.u8.has (n i)) → ACalls P M f [.agg ⟨cellsI .u8 32 k⟩, .int .u32 c, .agg ⟨cellsI .u8 12 n⟩] [] (.agg ⟨blockF k c n⟩) [] []) : (chaSum f).SoundC P M := by
  refine sumC_sound hf hn hb fun args os v os' ns hs hp => ?_
  simp only [chaSum] at hs hp ⊢
  split at hs
  · rename_i kc c nc
    split at hs
    · rename_i hk
      cases hs
      simp only [Bool.and_eq_true] at hk
      have h1 : rngB kc = true := hp (rngB kc, true) (List.Mem.head _)
      have h2 : rngB nc = true := hp (rngB nc, true) (List.Mem.tail _ (List.Mem.head _))
      have := h (wd kc) c (wd nc) (rngB_wd h1) (rngB_wd h2)
      rw [← isB_eq hk.1, ← isB_eq hk.2] at this
      exact ⟨this, fun _ => rfl⟩
    · cases hs
  · cases hs

def hchaSum (f : FuncId) : Sum :=
  { f := f, ro := true
    S := fun args os => match args, os with
      | [.agg ⟨kc⟩, .agg ⟨nc⟩], [] => if isB 32 kc && isB 16 nc then some (.agg ⟨keyF (wd kc) (wd nc)⟩, [], []) else none
      | _, _ => none
    C := fun args _ => match args with
      | [.agg ⟨kc⟩, .agg ⟨nc⟩] => [(rngB kc, true), (rngB nc, true)]
      | _ => [] }

theorem hchaSum_sound {P : Program} {M : Mem} {f : FuncId} {fn : Func} (hf : P.funcs[f]? = some fn) (hn : (fn.name == "runtime.NumGoroutine") = false) (hb : fn.body.isSome = true)
    (h : ∀ (k n : Nat → Int), (∀ i, IntKind.u8.has (k i)) → (∀ i, IntKind.u8.has (n i)) → ACalls P M f [.agg ⟨cellsI .u8 32 k⟩, .agg ⟨cellsI .u8 16 n⟩] [] (.agg ⟨keyF k n⟩) [] []) : (hchaSum f).SoundC P M := by
  refine sumC_sound hf hn hb fun args os v os' ns hs hp => ?_
  simp only [hchaSum] at hs hp ⊢
  split at hs
  · rename_i kc nc
    split at hs
    · rename_i hk
      cases hs
      simp only [Bool.and_eq_true] at hk
      have h1 : rngB kc = true := hp (rngB kc, true) (List.Mem.head _)
      have h2 : rngB nc = true := hp (rngB nc, true) (List.Mem.tail _ (List.Mem.head _))
      have := h (wd kc) (wd nc) (rngB_wd h1) (rngB_wd h2)
      rw [← isB_eq hk.1, ← isB_eq hk.2] at this
      exact ⟨this, fun _ => rfl⟩
    · cases hs
  · cases hs

theorem key_range {k n : Nat → Int} : rngB (keyF k n) = true := by
  unfold rngB keyF keyW
  rw [List.all_eq_true]
  intro v hv
  obtain ⟨j, _, rfl⟩ := List.mem_map.1 hv
  exact hasB_iff.2 (byteL_range _ _)

theorem block_range {k : Nat → Int} {c : Int} {n : Nat → Int} : rngB (blockF k c n) = true := by
  unfold rngB blockF blockW
  rw [List.all_eq_true]
  intro v hv
  obtain ⟨j, _, rfl⟩ := List.mem_map.1 hv
  exact hasB_iff.2 (byteL_range _ _)

end Go.Num
