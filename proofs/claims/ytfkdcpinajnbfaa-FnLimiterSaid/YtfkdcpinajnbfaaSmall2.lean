/- Single buckets compared.
   Conditions: none. -/
import Derived.Test.YtfkdcpinajnbfaaSmall
open Go.Ab
set_option linter.unusedVariables false
set_option linter.unusedSimpArgs false
namespace Go.Proofs.Ytfkdcpinajnbfaa
set_option maxRecDepth 100000

def eqKSum : Sum := { f := 41, ro := true, S := fun args os => match args, os with
  | [.agg ⟨l⟩, .agg ⟨l'⟩], [] => match keyOfL l, keyOfL l' with
    | some k, some k' => some (.bool (decide (k = k')), [], [])
    | _, _ => none
  | _, _ => none }
theorem eqB_key (k k' : Key) : eqB (kc k) (kc k') = decide (k = k') := by
  obtain ⟨a0, a1, a2, a3, a4, a5, a6, a7, a8⟩ := k
  obtain ⟨b0, b1, b2, b3, b4, b5, b6, b7, b8⟩ := k'
  rw [Bool.eq_iff_iff]
  simp [eqB, kc]
theorem eqK (M : Mem) : eqKSum.Sound Try.prog M := by
  refine sum_sound Try.func41 (by kernel_rfl) (by kernel_rfl) fun args os v os' ns hs => ?_
  simp only [eqKSum] at hs
  split at hs
  · rename_i l l'
    split at hs
    · rename_i k k' hk hk'
      cases hs
      rw [keyOfL_eq hk, keyOfL_eq hk', ← eqB_key]
      have h := eq9 M [.agg ⟨kc k⟩, .agg ⟨kc k'⟩] [] (.bool (eqB (kc k) (kc k'))) [] [] (by kernel_rfl)
      refine ⟨?_, fun _ => rfl⟩
      rcases h.1 with ⟨_, h1⟩ | ⟨_, _, h1⟩
      · exact h1
      · refine ⟨rfl, fun m w args' r hargs => ?_⟩
        obtain ⟨u, hu, hv⟩ := h1 m w args' r hargs
        exfalso
        have he : (callFunc 41 args').run Try.prog w = .ok (.enter 41 args') w := by
          simp only [callFunc, Sem.run_bind, run_program, Result.andThen_ok, Try.func41]
          rfl
        rw [show eqSum 41 9 = { f := 41, ro := true, S := eqS 9 } from rfl] at hu
        simp only at hu
        rw [he] at hu
        cases hu
    · cases hs
  · cases hs

def eqBSum : Sum := { f := 30, ro := true, S := fun args os => match args, os with
  | [.agg ⟨l⟩, .agg ⟨l'⟩], [] => match bkOfL l, bkOfL l' with
    | some b, some b' => some (.bool (decide (b = b')), [], [])
    | _, _ => none
  | _, _ => none }

theorem eqb0 (M : Mem) (b b' : Bk) : evFU Try.prog M (ovS shT Try.prog M) [] [] [eqKSum] [9, 15, 20] 300 Try.f30 [.agg ⟨bc b⟩, .agg ⟨bc b'⟩] [] [false] = some ((.bool false, [], []), [(decide (b.k = b'.k), false)]) := by kernel_rfl
theorem eqb1 (M : Mem) (b b' : Bk) : evFU Try.prog M (ovS shT Try.prog M) [] [] [eqKSum] [9, 15, 20] 300 Try.f30 [.agg ⟨bc b⟩, .agg ⟨bc b'⟩] [] [true, true] = some ((.bool false, [], []), [(decide (b.k = b'.k), true), (b.tok != b'.tok, true)]) := by kernel_rfl
theorem eqb2 (M : Mem) (b b' : Bk) : evFU Try.prog M (ovS shT Try.prog M) [] [] [eqKSum] [9, 15, 20] 300 Try.f30 [.agg ⟨bc b⟩, .agg ⟨bc b'⟩] [] [true, false, true] = some ((.bool false, [], []), [(decide (b.k = b'.k), true), (b.tok != b'.tok, false), (b.last != b'.last, true)]) := by kernel_rfl
theorem eqb3 (M : Mem) (b b' : Bk) : evFU Try.prog M (ovS shT Try.prog M) [] [] [eqKSum] [9, 15, 20] 300 Try.f30 [.agg ⟨bc b⟩, .agg ⟨bc b'⟩] [] [true, false, false] = some ((.bool true, [], []), [(decide (b.k = b'.k), true), (b.tok != b'.tok, false), (b.last != b'.last, false)]) := by kernel_rfl

theorem eqBk_calls (M : Mem) (b b' : Bk) : ACalls Try.prog M 30 [.agg ⟨bc b⟩, .agg ⟨bc b'⟩] [] (.bool (decide (b = b'))) [] [] := by
  have hl : ∀ s ∈ [eqKSum], s.SoundC Try.prog M := consC (eqK M).c nilC
  obtain ⟨k, t, l⟩ := b
  obtain ⟨k', t', l'⟩ := b'
  by_cases h1 : k = k'
  · by_cases h2 : t = t'
    · by_cases h3 : l = l'
      · subst h1 h2 h3
        have e : decide ((⟨k, t, l⟩ : Bk) = ⟨k, t, l⟩) = true := by simp
        rw [e]
        exact acalls_of_evFU (ovS_ok shT _ _) hl mix Try.func30 (hooksOk_nil _) (eqb3 M _ _) (held_cons (by simp) (held_cons (by simp) (held_one (by simp))))
      · have e : decide ((⟨k, t, l⟩ : Bk) = ⟨k', t', l'⟩) = false := by simp [h3]
        rw [e]
        exact acalls_of_evFU (ovS_ok shT _ _) hl mix Try.func30 (hooksOk_nil _) (eqb2 M _ _) (held_cons (by simpa using h1) (held_cons (by simpa using h2) (held_one (by simpa using h3))))
    · have e : decide ((⟨k, t, l⟩ : Bk) = ⟨k', t', l'⟩) = false := by simp [h2]
      rw [e]
      exact acalls_of_evFU (ovS_ok shT _ _) hl mix Try.func30 (hooksOk_nil _) (eqb1 M _ _) (held_cons (by simpa using h1) (held_one (by simpa using h2)))
  · have e : decide ((⟨k, t, l⟩ : Bk) = ⟨k', t', l'⟩) = false := by simp [h1]
    rw [e]
    exact acalls_of_evFU (ovS_ok shT _ _) hl mix Try.func30 (hooksOk_nil _) (eqb0 M _ _) (held_one (by simpa using h1))

theorem eqBs (M : Mem) : eqBSum.Sound Try.prog M := by
  refine sum_sound Try.func30 (by kernel_rfl) (by kernel_rfl) fun args os v os' ns hs => ?_
  simp only [eqBSum] at hs
  split at hs
  · rename_i l l'
    split at hs
    · rename_i b b' hb hb'
      cases hs
      rw [bkOfL_eq hb, bkOfL_eq hb']
      exact ⟨eqBk_calls M b b', fun _ => rfl⟩
    · cases hs
  · cases hs
end Go.Proofs.Ytfkdcpinajnbfaa
