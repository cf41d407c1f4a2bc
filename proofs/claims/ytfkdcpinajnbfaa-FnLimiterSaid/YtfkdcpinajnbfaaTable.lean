/- The method table of the limiter: it hands back no map where the limiter is no valid one, and else a map of its buckets.
   Conditions: keys of bytes; few enough buckets. -/
import Derived.Test.YtfkdcpinajnbfaaTableE
open Go.Ab
set_option linter.unusedVariables false
set_option linter.unusedSimpArgs false
namespace Go.Proofs.Ytfkdcpinajnbfaa

/-! ### Single operations -/
noncomputable def opAt (c : Code) (i : Nat) : Oper := ((opsOf c)[i]?).getD ⟨none, .move (.tmp 0), 0, "", #[], none⟩

theorem ex_v {P : Program} {s : Sem Value} {w w' : World} {v : Value} (h : s.run P w = .ok v w') : (do pure (Next.value (← s)) : Sem Next).run P w = .ok (.value v) w' := by
  simp only [Sem.run_bind, h, Result.andThen, Sem.run_pure]
theorem ex_u {P : Program} {s : Sem Unit} {w w' : World} (h : s.run P w = .ok () w') : (do s; pure Next.skip : Sem Next).run P w = .ok .skip w' := by
  simp only [Sem.run_bind, h, Result.andThen, Sem.run_pure]

theorem ex_lookup {P : Program} {o : Oper} {ρ : Operand → Value} {t : TypeId} {x y : Operand} {c : Bool} (ho : o.op = .lookup t x y c) {w w' : World} {v : Value} (h : (Instr.lookup t (ρ x) (ρ y) c).run P w = .ok v w') : (execOp ρ o).run P w = .ok (.value v) w' := by
  simp only [execOp, ho]; exact ex_v h
theorem ex_makeMap {P : Program} {o : Oper} {ρ : Operand → Value} {t : TypeId} {x : Option Operand} (ho : o.op = .makeMap t x) {w w' : World} {v : Value} (h : (Instr.makeMap t (x.map ρ)).run P w = .ok v w') : (execOp ρ o).run P w = .ok (.value v) w' := by
  simp only [execOp, ho]; exact ex_v h
theorem ex_update {P : Program} {o : Oper} {ρ : Operand → Value} {t : TypeId} {x y u : Operand} (ho : o.op = .mapUpdate t x y u) {w w' : World} (h : (Instr.mapUpdate t (ρ x) (ρ y) (ρ u)).run P w = .ok () w') : (execOp ρ o).run P w = .ok .skip w' := by
  simp only [execOp, ho]; exact ex_u h

theorem wpOps_skip {P : Program} {ops : Array Oper} {Q : Exit → Go.Act → World → Prop} {i : Nat} {rest : List Nat} {a : Go.Act} {w w' : World} {o : Oper} (ho : ops[i]? = some o) (hg : o.guard = none) (hrun : (execOp a.eval o).run P w = .ok .skip w')
    (hk : wpOps P ops Q rest (a.put o.dst undef) w') : wpOps P ops Q (i :: rest) a w := by
  have hw : Region.wanted o (yielded ops a.tmps) = true := by unfold Region.wanted; rw [hg]
  simp only [wpOps, ho, hw, if_true]
  refine .inl ?_
  simp only [Oper.wp, hrun, Oper.upon_skip]
  exact hk

theorem run_make51 {n : Int} (w : World) : (Instr.makeMap 51 (some (.int .i64 n))).run Try.prog w = .ok (.map (some w.heap.size)) (w.alloc (.map #[] 0)) := by
  have h : (asInt (.int .i64 n)).run Try.prog w = .ok n w := rfl
  simp only [Instr.makeMap, Sem.run_bind, und_run 51 und51, Result.andThen, h, run_newObj_alloc, Sem.run_pure]

/-! ### What is asked of a limiter -/
def RowOk (now : Int) (b : Bk) : Prop := 0 ≤ b.tok ∧ b.tok ≤ 250000000 ∧ 0 ≤ b.last ∧ b.last ≤ now
structure RowsOk (now : Int) (L : List Bk) : Prop where
  rows : ∀ b ∈ L, RowOk now b
  apart : L.Pairwise fun x y => x.k ≠ y.k
structure HeadOk (most sw now : Int) (n : Nat) : Prop where
  h0 : 0 ≤ now
  h1 : 1 ≤ most
  h2 : most ≤ 4096
  h3 : (n : Int) ≤ most
  h4 : 0 ≤ sw
  h5 : sw ≤ now

theorem first_bad (now : Int) (L : List Bk) : ∀ n, RowsOk now (L.take n) ∨ ∃ k, k < n ∧ RowsOk now (L.take k) ∧ ¬ RowsOk now (L.take (k + 1)) := by
  intro n
  induction n with
  | zero => exact .inl ⟨fun b hb => by simp at hb, by simp⟩
  | succ n ih =>
    rcases ih with h | ⟨k, h1, h2, h3⟩
    · by_cases h2 : RowsOk now (L.take (n + 1))
      · exact .inl h2
      · exact .inr ⟨n, by omega, h, h2⟩
    · exact .inr ⟨k, by omega, h2, h3⟩

theorem head_cases (most sw now : Int) (n : Nat) : HeadOk most sw now n ∨ ∃ j, j < 6 ∧ Held (badP j n most sw now) := by
  by_cases a0 : now < 0
  · exact .inr ⟨0, by decide, held_one (by simpa using a0)⟩
  by_cases a1 : most < 1
  · exact .inr ⟨1, by decide, held_cons (by simpa using a0) (held_one (by simpa using a1))⟩
  by_cases a2 : most > 4096
  · exact .inr ⟨2, by decide, held_cons (by simpa using a0) (held_cons (by simpa using a1) (held_one (by simpa using a2)))⟩
  by_cases a3 : (n : Int) > most
  · exact .inr ⟨3, by decide, held_cons (by simpa using a0) (held_cons (by simpa using a1) (held_cons (by simpa using a2) (held_one (by simpa using a3))))⟩
  by_cases a4 : sw < 0
  · exact .inr ⟨4, by decide, held_cons (by simpa using a0) (held_cons (by simpa using a1) (held_cons (by simpa using a2) (held_cons (by simpa using a3) (held_one (by simpa using a4)))))⟩
  by_cases a5 : sw > now
  · exact .inr ⟨5, by decide, held_cons (by simpa using a0) (held_cons (by simpa using a1) (held_cons (by simpa using a2) (held_cons (by simpa using a3) (held_cons (by simpa using a4) (held_one (by simpa using a5))))))⟩
  exact .inl ⟨by omega, by omega, by omega, by omega, by omega, by omega⟩

theorem head_held {most sw now : Int} {n : Nat} (h : HeadOk most sw now n) : Held (headP false false false false false false n most sw now) := by
  obtain ⟨h0, h1, h2, h3, h4, h5⟩ := h
  exact held_cons (by simpa using h0) (held_cons (by simp; omega) (held_cons (by simp; omega) (held_cons (by simp; omega) (held_cons (by simpa using h4) (held_one (by simp; omega))))))

theorem bad_not {most sw now : Int} {n j : Nat} (hj : j < 6) (hb : Held (badP j n most sw now)) : ¬ HeadOk most sw now n := by
  rintro ⟨h0, h1, h2, h3, h4, h5⟩
  obtain rfl | rfl | rfl | rfl | rfl | rfl : j = 0 ∨ j = 1 ∨ j = 2 ∨ j = 3 ∨ j = 4 ∨ j = 5 := by omega
  · have := hb (decide (now < 0), true) (by simp [badP, headP]); simp at this; omega
  · have := hb (decide (most < 1), true) (by simp [badP, headP]); simp at this; omega
  · have := hb (decide (most > 4096), true) (by simp [badP, headP]); simp at this; omega
  · have := hb (decide ((n : Int) > most), true) (by simp [badP, headP]); simp at this; omega
  · have := hb (decide (sw < 0), true) (by simp [badP, headP]); simp at this; omega
  · have := hb (decide (sw > now), true) (by simp [badP, headP]); simp at this; omega

theorem row_cases (b : Bk) (now : Int) : RowOk now b ∨ ∃ j, j < 4 ∧ Held (badR j b now) := by
  by_cases a0 : b.tok < 0
  · exact .inr ⟨0, by decide, held_one (by simpa using a0)⟩
  by_cases a1 : b.tok > 250000000
  · exact .inr ⟨1, by decide, held_cons (by simpa using a0) (held_one (by simpa using a1))⟩
  by_cases a2 : b.last < 0
  · exact .inr ⟨2, by decide, held_cons (by simpa using a0) (held_cons (by simpa using a1) (held_one (by simpa using a2)))⟩
  by_cases a3 : b.last > now
  · exact .inr ⟨3, by decide, held_cons (by simpa using a0) (held_cons (by simpa using a1) (held_cons (by simpa using a2) (held_one (by simpa using a3))))⟩
  exact .inl ⟨by omega, by omega, by omega, by omega⟩

theorem row_held {b : Bk} {now : Int} (h : RowOk now b) : Held (rowP false false false false b now) := by
  obtain ⟨h0, h1, h2, h3⟩ := h
  exact held_cons (by simpa using h0) (held_cons (by simp; omega) (held_cons (by simpa using h2) (held_one (by simp; omega))))

end Go.Proofs.Ytfkdcpinajnbfaa
