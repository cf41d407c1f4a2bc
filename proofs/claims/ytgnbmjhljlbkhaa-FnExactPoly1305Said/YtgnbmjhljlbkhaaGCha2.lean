/- Contracts of the functions that turn a word and mix four words, out of one evaluation each.
   Conditions: the evaluations, which are named. -/
import Derived.Test.YtgnbmjhljlbkhaaGCha
set_option linter.unusedVariables false
namespace Go.Num
open Go.Ab

def turnB (k : Int) : Bool := decide (k = 16) || decide (k = 12) || decide (k = 8) || decide (k = 7)
theorem turnB_iff {k : Int} (h : turnB k = true) : k = 16 ∨ k = 12 ∨ k = 8 ∨ k = 7 := by
  simpa [turnB, or_assoc] using h

def rotSum (f : FuncId) : Sum :=
  { f := f, ro := true
    S := fun args os => match args, os with
      | [.int .u32 x, .int .i64 k], [] => if turnB k then some (.int .u32 (rot32 k.toNat x), [], []) else none
      | _, _ => none
    C := fun args _ => match args with
      | [.int .u32 x, _] => [(hasB .u32 x, true)]
      | _ => [] }

theorem rotSum_sound {P : Program} {M : Mem} {f : FuncId} {fn : Func} (hf : P.funcs[f]? = some fn) (hn : (fn.name == "runtime.NumGoroutine") = false) (hb : fn.body.isSome = true)
    (h : ∀ x, IntKind.u32.has x → ACalls P M f [.int .u32 x, .int .i64 16] [] (.int .u32 (rot32 16 x)) [] [] ∧ ACalls P M f [.int .u32 x, .int .i64 12] [] (.int .u32 (rot32 12 x)) [] [] ∧
      ACalls P M f [.int .u32 x, .int .i64 8] [] (.int .u32 (rot32 8 x)) [] [] ∧ ACalls P M f [.int .u32 x, .int .i64 7] [] (.int .u32 (rot32 7 x)) [] []) : (rotSum f).SoundC P M := by
  refine sumC_sound hf hn hb fun args os v os' ns hs hp => ?_
  simp only [rotSum] at hs hp ⊢
  split at hs
  · rename_i x k
    split at hs
    · rename_i hk
      cases hs
      have hx : IntKind.u32.has x := hasB_iff.1 (hp (hasB .u32 x, true) (List.Mem.head _))
      obtain ⟨h1, h2, h3, h4⟩ := h x hx
      refine ⟨?_, fun _ => rfl⟩
      rcases turnB_iff hk with rfl | rfl | rfl | rfl
      · exact h1
      · exact h2
      · exact h3
      · exact h4
    · cases hs
  · cases hs

def qS (q : Int × Int × Int × Int) : Nat × Nat × Nat × Nat := (q.1.toNat, q.2.1.toNat, q.2.2.1.toNat, q.2.2.2.toNat)

/-- A quarter, in the memory that a pointer names. -/
def qSum (f : FuncId) : Sum :=
  { f := f, ro := false
    S := fun args os => match args, os with
      | [.pointer (some ⟨0, 0, some 16⟩), .int .i64 a, .int .i64 b, .int .i64 c, .int .i64 d], [⟨cells, g, e, true⟩] =>
        if isW cells && quadB a b c d then some (.tuple ⟨[]⟩, [⟨qC cells (a.toNat, b.toNat, c.toNat, d.toNat), g, e, true⟩], []) else none
      | _, _ => none }

/-- A quarter, of a value. -/
def qSumV (f : FuncId) : Sum :=
  { f := f, ro := true
    S := fun args os => match args, os with
      | [.agg ⟨cells⟩, .int .i64 a, .int .i64 b, .int .i64 c, .int .i64 d], [] =>
        if isW cells && quadB a b c d then some (.agg ⟨qC cells (a.toNat, b.toNat, c.toNat, d.toNat)⟩, [], []) else none
      | _, _ => none }

theorem isW_iff {cells : List Value} (h : isW cells = true) : cells = cellsI .u32 16 (wd cells) := by
  simp only [isW, Bool.and_eq_true] at h
  have := cellsI_wd h.2
  rwa [Nat.eq_of_beq_eq_true h.1] at this

theorem quadB_iff {a b c d : Int} (h : quadB a b c d = true) : (a = 0 ∧ b = 4 ∧ c = 8 ∧ d = 12) ∨ (a = 1 ∧ b = 5 ∧ c = 9 ∧ d = 13) ∨ (a = 2 ∧ b = 6 ∧ c = 10 ∧ d = 14) ∨ (a = 3 ∧ b = 7 ∧ c = 11 ∧ d = 15) ∨
    (a = 0 ∧ b = 5 ∧ c = 10 ∧ d = 15) ∨ (a = 1 ∧ b = 6 ∧ c = 11 ∧ d = 12) ∨ (a = 2 ∧ b = 7 ∧ c = 8 ∧ d = 13) ∨ (a = 3 ∧ b = 4 ∧ c = 9 ∧ d = 14) := by
  simpa [quadB, and_assoc, or_assoc] using h

theorem wd_congr {k : IntKind} {cells : List Value} (h : cells = cellsI k cells.length (wd cells)) : True := trivial

theorem qSum_sound {P : Program} {M : Mem} {f : FuncId} {fn : Func} (hf : P.funcs[f]? = some fn) (hn : (fn.name == "runtime.NumGoroutine") = false) (hb : fn.body.isSome = true)
    (h : ∀ (x : Nat → Int) (g : Bool) (e : Nat) (q : Nat × Nat × Nat × Nat), q ∈ quads → ACalls P M f [.pointer (some ⟨0, 0, some 16⟩), .int .i64 q.1, .int .i64 q.2.1, .int .i64 q.2.2.1, .int .i64 q.2.2.2] [⟨cellsI .u32 16 x, g, e, true⟩]
      (.tuple ⟨[]⟩) [⟨cellsI .u32 16 (qF x q.1 q.2.1 q.2.2.1 q.2.2.2), g, e, true⟩] []) : (qSum f).SoundC P M := by
  refine sumC_sound hf hn hb fun args os v os' ns hs hp => ?_
  simp only [qSum] at hs hp ⊢
  split at hs
  · rename_i a b c d cells g e
    split at hs
    · rename_i hk
      cases hs
      simp only [Bool.and_eq_true] at hk
      refine ⟨?_, fun h => by cases h⟩
      have hw := isW_iff hk.1
      have key : ∀ q : Nat × Nat × Nat × Nat, q ∈ quads → ACalls P M f [.pointer (some ⟨0, 0, some 16⟩), .int .i64 q.1, .int .i64 q.2.1, .int .i64 q.2.2.1, .int .i64 q.2.2.2] [⟨cells, g, e, true⟩] (.tuple ⟨[]⟩) [⟨qC cells q, g, e, true⟩] [] := fun q hq => by
        have := h (wd cells) g e q hq
        rw [← hw] at this
        exact this
      rcases quadB_iff hk.2 with ⟨rfl, rfl, rfl, rfl⟩ | ⟨rfl, rfl, rfl, rfl⟩ | ⟨rfl, rfl, rfl, rfl⟩ | ⟨rfl, rfl, rfl, rfl⟩ | ⟨rfl, rfl, rfl, rfl⟩ | ⟨rfl, rfl, rfl, rfl⟩ | ⟨rfl, rfl, rfl, rfl⟩ | ⟨rfl, rfl, rfl, rfl⟩
      · exact key (0, 4, 8, 12) (by decide)
      · exact key (1, 5, 9, 13) (by decide)
      · exact key (2, 6, 10, 14) (by decide)
      · exact key (3, 7, 11, 15) (by decide)
      · exact key (0, 5, 10, 15) (by decide)
      · exact key (1, 6, 11, 12) (by decide)
      · exact key (2, 7, 8, 13) (by decide)
      · exact key (3, 4, 9, 14) (by decide)
    · cases hs
  · cases hs

theorem qSumV_sound {P : Program} {M : Mem} {f : FuncId} {fn : Func} (hf : P.funcs[f]? = some fn) (hn : (fn.name == "runtime.NumGoroutine") = false) (hb : fn.body.isSome = true)
    (h : ∀ (x : Nat → Int) (q : Nat × Nat × Nat × Nat), q ∈ quads → ACalls P M f [.agg ⟨cellsI .u32 16 x⟩, .int .i64 q.1, .int .i64 q.2.1, .int .i64 q.2.2.1, .int .i64 q.2.2.2] []
      (.agg ⟨cellsI .u32 16 (qF x q.1 q.2.1 q.2.2.1 q.2.2.2)⟩) [] []) : (qSumV f).SoundC P M := by
  refine sumC_sound hf hn hb fun args os v os' ns hs hp => ?_
  simp only [qSumV] at hs hp ⊢
  split at hs
  · rename_i cells a b c d
    split at hs
    · rename_i hk
      cases hs
      simp only [Bool.and_eq_true] at hk
      refine ⟨?_, fun _ => rfl⟩
      have hw := isW_iff hk.1
      have key : ∀ q : Nat × Nat × Nat × Nat, q ∈ quads → ACalls P M f [.agg ⟨cells⟩, .int .i64 q.1, .int .i64 q.2.1, .int .i64 q.2.2.1, .int .i64 q.2.2.2] [] (.agg ⟨qC cells q⟩) [] [] := fun q hq => by
        have := h (wd cells) q hq
        rw [← hw] at this
        exact this
      rcases quadB_iff hk.2 with ⟨rfl, rfl, rfl, rfl⟩ | ⟨rfl, rfl, rfl, rfl⟩ | ⟨rfl, rfl, rfl, rfl⟩ | ⟨rfl, rfl, rfl, rfl⟩ | ⟨rfl, rfl, rfl, rfl⟩ | ⟨rfl, rfl, rfl, rfl⟩ | ⟨rfl, rfl, rfl, rfl⟩ | ⟨rfl, rfl, rfl, rfl⟩
      · exact key (0, 4, 8, 12) (by decide)
      · exact key (1, 5, 9, 13) (by decide)
      · exact key (2, 6, 10, 14) (by decide)
      · exact key (3, 7, 11, 15) (by decide)
      · exact key (0, 5, 10, 15) (by decide)
      · exact key (1, 6, 11, 12) (by decide)
      · exact key (2, 7, 8, 13) (by decide)
      · exact key (3, 4, 9, 14) (by decide)
    · cases hs
  · cases hs

end Go.Num
