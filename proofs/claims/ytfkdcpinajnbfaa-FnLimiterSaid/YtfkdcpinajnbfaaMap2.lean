/- The limiter's map: what is laid into it, struck out of it, and walked over.
   Conditions: keys of bytes. -/
import Derived.Test.YtfkdcpinajnbfaaMap
open Go.Ab
set_option linter.unusedVariables false
set_option linter.unusedSimpArgs false
namespace Go.Proofs.Ytfkdcpinajnbfaa
open Go.ChangeMaps (setBlock)

theorem run_update {w : World} {mb clk : Nat} {L : List Ent} (hw : w.heap[mb]? = some (mapO L clk)) (hk : ∀ e ∈ L, KeyOk e.b.k) {b : Bk} (h : KeyOk b.k) (hnew : ∀ e ∈ L, e.b.k ≠ b.k) (blk : Nat) :
    (Instr.mapUpdate 51 (.map (some mb)) (kv b.k) (.pointer (some ⟨blk, 0, none⟩))).run Try.prog w = .ok () (setBlock w mb (mapO (L ++ [⟨b, clk, blk⟩]) (clk + 1))) := by
  have hs : (setObj mb (.map ((⟨L.map ment⟩ : Array MapEntry).push { key := kv b.k, val := .pointer (some ⟨blk, 0, none⟩), born := clk }) (clk + 1))).run Try.prog w = .ok () (setBlock w mb (mapO (L ++ [⟨b, clk, blk⟩]) (clk + 1))) := by
    rw [MapKept.run_setObj_map _ hw]
    simp [setBlock, mapO, ment]
  rcases find_ent hk h w with ⟨h1, h2⟩ | ⟨j, e, h1, h2, h3⟩
  · simp only [Instr.mapUpdate, Sem.run_bind, und_run 51 und51, Result.andThen, getObj_at hw, mapO, Sem.run_pure, check_kv h, h1]
    exact hs
  · exact absurd h3 (hnew e (List.mem_of_getElem? h2))

theorem erase_filter {L : List Ent} (hp : L.Pairwise fun x y => x.b.k ≠ y.b.k) : ∀ {j : Nat} {e : Ent}, L[j]? = some e → L.eraseIdx j = L.filter fun x => !decide (x.b.k = e.b.k) := by
  induction L with
  | nil => intro j e h; simp at h
  | cons x L ih =>
    intro j e h
    obtain ⟨h1, h2⟩ := List.pairwise_cons.1 hp
    cases j with
    | zero =>
      simp at h; subst h
      rw [List.eraseIdx_cons_zero, List.filter_cons_of_neg (by simp)]
      exact (List.filter_eq_self.2 fun y hy => by simpa using (h1 y hy).symm).symm
    | succ j =>
      have h' : L[j]? = some e := by simpa using h
      rw [List.eraseIdx_cons_succ, ih h2 h', List.filter_cons_of_pos (by simpa using h1 e (List.mem_of_getElem? h'))]

theorem run_delete {w : World} {mb clk : Nat} {L : List Ent} (hw : w.heap[mb]? = some (mapO L clk)) (hk : ∀ e ∈ L, KeyOk e.b.k) (hp : L.Pairwise fun x y => x.b.k ≠ y.b.k) {k : Key} (h : KeyOk k) (hin : ∃ e ∈ L, e.b.k = k) (ty : TypeId) :
    (Builtin.delete_ #[51, 25] ty #[.map (some mb), kv k]).run Try.prog w = .ok (.tuple #[]) (setBlock w mb (mapO (L.filter fun x => !decide (x.b.k = k)) clk)) := by
  rcases find_ent hk h w with ⟨h1, h2⟩ | ⟨j, e, h1, h2, h3⟩
  · obtain ⟨e, he, hek⟩ := hin; exact absurd hek (h2 e he)
  · have hw' : w.heap[mb]? = some (.map ⟨L.map ment⟩ clk) := hw
    have hs : (setObj mb (.map (((L.map ment).eraseIdx j).toArray) clk)).run Try.prog w = .ok () (setBlock w mb (mapO (L.filter fun x => !decide (x.b.k = k)) clk)) := by
      rw [MapKept.run_setObj_map _ hw', ← Go.ChangeMaps.map_eraseIdx, erase_filter hp h2, h3]; rfl
    simp [Builtin.delete_, run_underlying und51, MapKept.run_getObj_map hw', check_kv h, h1, hs, Result.andThen]

theorem run_len {w : World} {mb clk : Nat} {L : List Ent} (hw : w.heap[mb]? = some (mapO L clk)) (ty : TypeId) : (Builtin.len_ #[51] ty #[.map (some mb)]).run Try.prog w = .ok (.int .i64 L.length) w := by
  simp [Builtin.len_, run_underlying und51, MapKept.run_getObj_map hw, goInt, mapO]

end Go.Proofs.Ytfkdcpinajnbfaa
