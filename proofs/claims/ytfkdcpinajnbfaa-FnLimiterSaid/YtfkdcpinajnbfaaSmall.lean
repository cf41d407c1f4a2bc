/- Single buckets: copied, compared.
   Conditions: none. -/
import Derived.Test.YtfkdcpinajnbfaaBk
open Go.Ab
set_option linter.unusedVariables false
set_option linter.unusedSimpArgs false
namespace Go.Proofs.Ytfkdcpinajnbfaa
set_option maxRecDepth 100000

theorem eq9 (M : Mem) : (eqSum 41 9).Sound Try.prog M := eqSum_sound mix Try.func41 (by kernel_rfl) (by kernel_rfl) (sym := [16]) (fuel := 1000) (fun x y => by kernel_rfl)

def keyOfL : List Value → Option Key
  | [.int .u8 a0, .int .u8 a1, .int .u8 a2, .int .u8 a3, .int .u8 a4, .int .u8 a5, .int .u8 a6, .int .u8 a7, .int .u8 a8] => some ⟨a0, a1, a2, a3, a4, a5, a6, a7, a8⟩
  | _ => none
def bkOfL : List Value → Option Bk
  | [.int .u8 a0, .int .u8 a1, .int .u8 a2, .int .u8 a3, .int .u8 a4, .int .u8 a5, .int .u8 a6, .int .u8 a7, .int .u8 a8, .int .i64 t, .int .i64 l] => some ⟨⟨a0, a1, a2, a3, a4, a5, a6, a7, a8⟩, t, l⟩
  | _ => none
theorem keyOfL_eq {l : List Value} {k : Key} (h : keyOfL l = some k) : l = kc k := by
  unfold keyOfL at h
  split at h
  · cases h; rfl
  · cases h
theorem bkOfL_eq {l : List Value} {b : Bk} (h : bkOfL l = some b) : l = bc b := by
  unfold bkOfL at h
  split at h
  · cases h; rfl
  · cases h

def toKSum : Sum := { f := 8, ro := true, S := fun args os => match args, os with
  | [.agg ⟨l⟩], [] => match keyOfL l with
    | some k => some (.agg ⟨kc k⟩, [], [])
    | none => none
  | _, _ => none }
theorem toK_eval (M : Mem) (k : Key) : evF Try.prog M (fns []) 1000 Try.f8 [.agg ⟨kc k⟩] [] [] = some (.agg ⟨kc k⟩, [], []) := by kernel_rfl
theorem toK (M : Mem) : toKSum.Sound Try.prog M := by
  refine sum_sound Try.func8 (by kernel_rfl) (by kernel_rfl) fun args os v os' ns hs => ?_
  simp only [toKSum] at hs
  split at hs
  · rename_i l
    split at hs
    · rename_i k hk
      cases hs
      rw [keyOfL_eq hk]
      exact ⟨acalls_of_evF fns_nil mix Try.func8 (toK_eval M k), fun _ => rfl⟩
    · cases hs
  · cases hs

def toBSum : Sum := { f := 26, ro := true, S := fun args os => match args, os with
  | [.agg ⟨l⟩], [] => match bkOfL l with
    | some b => some (.agg ⟨bc b⟩, [], [])
    | none => none
  | _, _ => none }
theorem toB_eval (M : Mem) (b : Bk) : evF Try.prog M (fns [toKSum]) 1000 Try.f26 [.agg ⟨bc b⟩] [] [] = some (.agg ⟨bc b⟩, [], []) := by kernel_rfl
theorem toB (M : Mem) : toBSum.Sound Try.prog M := by
  refine sum_sound Try.func26 (by kernel_rfl) (by kernel_rfl) fun args os v os' ns hs => ?_
  simp only [toBSum] at hs
  split at hs
  · rename_i l
    split at hs
    · rename_i b hb
      cases hs
      rw [bkOfL_eq hb]
      exact ⟨acalls_of_evF (fns_sound (fns_cons (toK M) (by simp))) mix Try.func26 (toB_eval M b), fun _ => rfl⟩
    · cases hs
  · cases hs

end Go.Proofs.Ytfkdcpinajnbfaa
