/- The limiter's map walked over; lists of entries.
   Conditions: keys of bytes. -/
import Derived.Test.YtfkdcpinajnbfaaAllowC
open Go.Ab
set_option linter.unusedVariables false
set_option linter.unusedSimpArgs false
namespace Go.Proofs.Ytfkdcpinajnbfaa
open Go.ChangeMaps (setBlock)

/-- An iterator over the map, behind what it has handed out. -/
def itO (mb clk : Nat) (S : List Nat) : Obj := .mapIter (some mb) clk ⟨S⟩ clk
def gIt (mb clk : Nat) (L : List Ent) (it : Nat) (S : List Nat) : Gho := fun x y => gMap mb clk L x y ∨ (x = it ∧ y = .obj (itO mb clk S))
abbrev ptrE (e : Ent) : Value := .pointer (some ⟨e.blk, 0, none⟩)

theorem ex_range {P : Program} {o : Oper} {ρ : Operand → Value} {t : TypeId} {x : Operand} (ho : o.op = .range t x) {w w' : World} {v : Value} (h : (Instr.range t (ρ x)).run P w = .ok v w') : (execOp ρ o).run P w = .ok (.value v) w' := by
  simp only [execOp, ho]; exact ex_v h
theorem ex_next {P : Program} {o : Oper} {ρ : Operand → Value} {s : Bool} {x : Operand} (ho : o.op = .next x s) {w w' : World} {v : Value} (h : (Instr.next (ρ x) s o.type).run P w = .ok v w') : (execOp ρ o).run P w = .ok (.value v) w' := by
  simp only [execOp, ho]; exact ex_v h
theorem ex_entry {P : Program} {o : Oper} {ρ : Operand → Value} {x : Operand} (ho : o.op = .entry x) {w w' : World} {v : Value} (h : (Instr.entry (ρ x)).run P w = .ok v w') : (execOp ρ o).run P w = .ok (.value v) w' := by
  simp only [execOp, ho]; exact ex_v h
theorem ex_delete {P : Program} {o : Oper} {ρ : Operand → Value} {x y : Operand} {ts : Array TypeId} (ho : o.op = .call ⟨.builtin .delete, #[x, y], ts⟩) {w w' : World} {v : Value} (h : (Builtin.delete_ ts o.type #[ρ x, ρ y]).run P w = .ok v w') : (execOp ρ o).run P w = .ok (.value v) w' := by
  simp only [execOp, ho, resolve, Sem.run_bind, Sem.run_pure, Result.andThen_ok, invoke, builtin]
  have := ex_v h
  simpa [Sem.run_bind] using this
theorem ex_len {P : Program} {o : Oper} {ρ : Operand → Value} {x : Operand} {ts : Array TypeId} (ho : o.op = .call ⟨.builtin .len, #[x], ts⟩) {w w' : World} {v : Value} (h : (Builtin.len_ ts o.type #[ρ x]).run P w = .ok v w') : (execOp ρ o).run P w = .ok (.value v) w' := by
  simp only [execOp, ho, resolve, Sem.run_bind, Sem.run_pure, Result.andThen_ok, invoke, builtin]
  have := ex_v h
  simpa [Sem.run_bind] using this

theorem run_rangeM {w : World} {mb clk : Nat} {L : List Ent} (hw : w.heap[mb]? = some (mapO L clk)) : (Instr.range 51 (.map (some mb))).run Try.prog w = .ok (.pointer (some ⟨w.heap.size, 0, none⟩)) (w.alloc (itO mb clk [])) := by
  simp only [Instr.range, Sem.run_bind, und_run 51 und51, Result.andThen, getObj_at hw, mapO, Sem.run_pure, run_newObj_alloc]
  rfl

theorem left_mem {L : List Ent} {S : List Nat} {x : MapEntry} : x ∈ (leftOf ⟨L.map ment⟩ ⟨S⟩).toList ↔ ∃ e ∈ L, e.num ∉ S ∧ x = ment e := by
  simp only [leftOf, Array.toList_filter, List.mem_filter, List.mem_map]
  constructor
  · rintro ⟨⟨e, he, rfl⟩, h⟩
    exact ⟨e, he, by simpa [ment] using h, rfl⟩
  · rintro ⟨e, he, h, rfl⟩
    exact ⟨⟨e, he, rfl⟩, by simpa [ment] using h⟩

theorem run_nextM {w : World} {mb clk it : Nat} {L : List Ent} {S : List Nat} (hw : w.heap[mb]? = some (mapO L clk)) (hi : w.heap[it]? = some (itO mb clk S)) (hclk : ∀ e ∈ L, e.num < clk) (ty : TypeId) :
    ((∀ e ∈ L, e.num ∈ S) ∧ (Instr.next (.pointer (some ⟨it, 0, none⟩)) false ty).run Try.prog w = .ok (.tuple #[.bool false]) w) ∨
    ∃ e ∈ L, e.num ∉ S ∧ ∃ w1, (w1 = w ∨ w1 = w.drew) ∧ (Instr.next (.pointer (some ⟨it, 0, none⟩)) false ty).run Try.prog w = .ok (.tuple #[.bool true, kv e.b.k, ptrE e]) (setBlock w1 it (itO mb clk (S ++ [e.num]))) := by
  rcases run_next_at (P := Try.prog) w ty it mb clk clk ⟨S⟩ ⟨L.map ment⟩ clk hi hw (fun x hx => by
    obtain ⟨e, he, rfl⟩ := List.mem_map.1 hx
    exact hclk e he) (Nat.le_refl _) with ⟨h1, h2⟩ | ⟨x, hx, w1, hw1, h2⟩
  · refine .inl ⟨fun e he => ?_, h2⟩
    by_cases hs : e.num ∈ S
    · exact hs
    · have : ment e ∈ (leftOf ⟨L.map ment⟩ ⟨S⟩).toList := left_mem.2 ⟨e, he, hs, rfl⟩
      rw [Array.eq_empty_of_size_eq_zero h1] at this
      simp at this
  · obtain ⟨e, he, hs, rfl⟩ := left_mem.1 hx
    refine .inr ⟨e, he, hs, w1, hw1, ?_⟩
    rw [h2]
    simp [itO, ment]

theorem run_entryM {w : World} {mb clk it : Nat} {L : List Ent} {S : List Nat} {e : Ent} (hw : w.heap[mb]? = some (mapO L clk)) (hi : w.heap[it]? = some (itO mb clk (S ++ [e.num]))) (he : e ∈ L) (hn : L.Pairwise fun x y => x.num < y.num) :
    (Instr.entry (.pointer (some ⟨it, 0, none⟩))).run Try.prog w = .ok (.tuple #[kv e.b.k, ptrE e]) w := by
  refine run_entry_at (P := Try.prog) w it mb clk ⟨S⟩ ⟨L.map ment⟩ clk (ment e) (by rw [hi]; simp [itO, ment]) hw (List.mem_map.2 ⟨e, he, rfl⟩) ?_
  simp only [List.map_map]
  have : (L.map (fun e => e.num)).Nodup := by
    rw [List.nodup_iff_pairwise_ne, List.pairwise_map]
    exact hn.imp fun h => by omega
  exact this

/-! ### Lists without repetition -/
theorem sub_len : ∀ {S N : List Nat}, S.Nodup → (∀ x ∈ S, x ∈ N) → S.length ≤ N.length := by
  intro S
  induction S with
  | nil => intro N _ _; simp
  | cons a S ih =>
    intro N h hs
    obtain ⟨h1, h2⟩ := List.nodup_cons.1 h
    have ha := hs a (by simp)
    have h3 := ih (N := N.erase a) h2 fun x hx => (List.mem_erase_of_ne (fun e => h1 (by rw [← e]; exact hx))).2 (hs x (by simp [hx]))
    have := List.length_erase_of_mem ha
    have : 0 < N.length := List.length_pos_of_mem ha
    simp only [List.length_cons]
    omega
theorem all_in {S N : List Nat} (h : S.Nodup) (hs : ∀ x ∈ S, x ∈ N) (hl : N.length ≤ S.length) : ∀ x ∈ N, x ∈ S := fun x hx => Classical.byContradiction fun hn => by
  have := sub_len (S := x :: S) (N := N) (List.nodup_cons.2 ⟨hn, h⟩) (fun y hy => by
    rcases List.mem_cons.1 hy with rfl | hy
    · exact hx
    · exact hs y hy)
  simp at this
  omega
theorem some_out {S N : List Nat} (h : N.Nodup) (hl : S.length < N.length) : ∃ x ∈ N, x ∉ S := Classical.byContradiction fun hn => by
  have := sub_len (S := N) (N := S) h fun x hx => Classical.byContradiction fun hx' => hn ⟨x, hx, hx'⟩
  omega

theorem nums_nodup {L : List Ent} (h : L.Pairwise fun x y => x.num < y.num) : (L.map (·.num)).Nodup := by
  rw [List.nodup_iff_pairwise_ne, List.pairwise_map]
  exact h.imp fun h => by omega
theorem ent_of_num {L : List Ent} (h : L.Pairwise fun x y => x.num < y.num) {x y : Ent} (hx : x ∈ L) (hy : y ∈ L) (he : x.num = y.num) : x = y := by
  induction L with
  | nil => cases hx
  | cons a L ih =>
    obtain ⟨h1, h2⟩ := List.pairwise_cons.1 h
    rcases List.mem_cons.1 hx with rfl | hx' <;> rcases List.mem_cons.1 hy with rfl | hy'
    · rfl
    · have := h1 y hy'; omega
    · have := h1 x hx'; omega
    · exact ih h2 hx' hy'
theorem ent_of_key {L : List Ent} (h : L.Pairwise fun x y => x.b.k ≠ y.b.k) {x y : Ent} (hx : x ∈ L) (hy : y ∈ L) (he : x.b.k = y.b.k) : x = y := by
  induction L with
  | nil => cases hx
  | cons a L ih =>
    obtain ⟨h1, h2⟩ := List.pairwise_cons.1 h
    rcases List.mem_cons.1 hx with rfl | hx' <;> rcases List.mem_cons.1 hy with rfl | hy'
    · rfl
    · exact absurd he (h1 y hy')
    · exact absurd he.symm (h1 x hx')
    · exact ih h2 hx' hy'

theorem MapOk.filter {mb clk : Nat} {L : List Ent} (h : MapOk mb clk L) (p : Ent → Bool) : MapOk mb clk (L.filter p) := by
  refine ⟨fun e he => h.keys e (List.mem_filter.1 he).1, h.apart.filter _, ?_, h.nums.filter _, fun e he => h.clk e (List.mem_filter.1 he).1⟩
  exact h.blks.sublist (List.Sublist.cons_cons _ (List.Sublist.map _ List.filter_sublist))

theorem ent_of_blk {mb clk : Nat} {L : List Ent} (h : MapOk mb clk L) {x y : Ent} (hx : x ∈ L) (hy : y ∈ L) (he : x.blk = y.blk) : x = y := by
  have hn := (List.nodup_cons.1 h.blks).2
  clear h
  induction L with
  | nil => cases hx
  | cons a L ih =>
    simp only [List.map_cons, List.nodup_cons] at hn
    rcases List.mem_cons.1 hx with rfl | hx' <;> rcases List.mem_cons.1 hy with rfl | hy'
    · rfl
    · exact absurd (List.mem_map.2 ⟨y, hy', he.symm⟩) hn.1
    · exact absurd (List.mem_map.2 ⟨x, hx', he⟩) hn.1
    · exact ih hx' hy' hn.2
theorem blk_ne {mb clk : Nat} {L : List Ent} (h : MapOk mb clk L) {x : Ent} (hx : x ∈ L) : x.blk ≠ mb := fun e => (List.nodup_cons.1 h.blks).1 (List.mem_map.2 ⟨x, hx, e⟩)

end Go.Proofs.Ytfkdcpinajnbfaa
