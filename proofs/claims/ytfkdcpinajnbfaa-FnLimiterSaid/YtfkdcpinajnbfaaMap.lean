/- The limiter's map: what its operations do in whatever world.
   Conditions: keys of bytes. -/
import Derived.Test.YtfkdcpinajnbfaaBk
import Derived.Maps.Range
import Derived.DeepKeys4
open Go.Ab
set_option linter.unusedVariables false
set_option linter.unusedSimpArgs false
namespace Go.Proofs.Ytfkdcpinajnbfaa

def byteB (x : Int) : Prop := 0 ≤ x ∧ x ≤ 255
structure KeyOk (k : Key) : Prop where
  h0 : byteB k.a0
  h1 : byteB k.a1
  h2 : byteB k.a2
  h3 : byteB k.a3
  h4 : byteB k.a4
  h5 : byteB k.a5
  h6 : byteB k.a6
  h7 : byteB k.a7
  h8 : byteB k.a8

theorem laid0 : laidOutB Try.prog = true := by kernel_rfl
theorem und25 : Try.prog.underlying 25 = some (.array 9 5) := by kernel_rfl
theorem und51 : Try.prog.underlying 51 = some (.map 25 53) := by kernel_rfl
theorem wide25 : (match Try.prog.underlying 25 with | some (.array _ _) | some (.struct _) => true | _ => false) = true := by kernel_rfl
theorem law25 : Go.WideMaps.KeyLaw Try.prog 25 := deep_law_laid laid0 (m := 2) (by omega) (of_decide_eq_true (by kernel_rfl)) (by kernel_rfl) wide25
theorem K25 : Go.Maps.Keyed Try.prog 25 := .of_law law25

theorem und5 : Try.prog.underlying 5 = some (.int .u8) := by kernel_rfl
theorem cells25 : Try.prog.cellsOf 25 = 9 := by kernel_rfl
theorem cells5 : Try.prog.cellsOf 5 = 1 := by kernel_rfl
theorem keyT25 : Try.prog.keyType 25 = true := by kernel_rfl

theorem byte_lit {d : Nat} {x : Int} (h : byteB x) : Try.prog.keyLits (d + 1) 5 [.int .u8 x] = some [.int .u8 x] := by
  have hw : (Lit.int .u8 x).wf = true := by
    have h1 := h.1
    have h2 := h.2
    simp [Lit.wf, IntKind.has, IntKind.min, IntKind.max, IntKind.wrap, IntKind.bits, IntKind.signed]
    omega
  simp only [Program.keyLits, und5, hw, and_self, if_true]

theorem keyOf_kv {k : Key} (h : KeyOk k) : ∃ l, keyOf Try.prog 25 (kv k) = some l := by
  obtain ⟨d, hd⟩ : ∃ d, Try.prog.types.size + 1 = d + 2 := ⟨Try.prog.types.size - 1, by
    have : 0 < Try.prog.types.size := of_decide_eq_true (by kernel_rfl)
    omega⟩
  have hf : (kv k).formed Try.prog 25 = true := by
    simp only [kv, Value.formed, und25, cells25]; rfl
  have hl : Try.prog.keyLits (d + 2) 25 (kc k) = some [.int .u8 k.a0, .int .u8 k.a1, .int .u8 k.a2, .int .u8 k.a3, .int .u8 k.a4, .int .u8 k.a5, .int .u8 k.a6, .int .u8 k.a7, .int .u8 k.a8] := by
    unfold Program.keyLits
    simp only [und25, cells25, cells5]
    rw [if_pos (show (kc k).length = 9 from rfl)]
    simp only [show List.range 9 = [0, 1, 2, 3, 4, 5, 6, 7, 8] from rfl, kc, List.mapM_cons, List.mapM_nil, Nat.mul_one, List.drop_zero, List.drop_succ_cons, List.take_succ_cons, List.take_zero, byte_lit h.h0, byte_lit h.h1, byte_lit h.h2, byte_lit h.h3, byte_lit h.h4, byte_lit h.h5, byte_lit h.h6, byte_lit h.h7, byte_lit h.h8]
    rfl
  refine ⟨.string (keyBytes [.int .u8 k.a0, .int .u8 k.a1, .int .u8 k.a2, .int .u8 k.a3, .int .u8 k.a4, .int .u8 k.a5, .int .u8 k.a6, .int .u8 k.a7, .int .u8 k.a8]), ?_⟩
  unfold keyOf
  rw [und25]
  simp only [keyT25, hf, Bool.and_self, if_true]
  rw [hd, show (kv k).cells.toList = kc k from rfl, hl]
  rfl

/-- An entry of the limiter: a bucket, its number, and where it lies. -/
structure Ent where
  b : Bk
  num : Nat
  blk : Nat
def ment (e : Ent) : MapEntry := { key := kv e.b.k, val := .pointer (some ⟨e.blk, 0, none⟩), born := e.num }
def mapO (L : List Ent) (clk : Nat) : Obj := .map ⟨L.map ment⟩ clk

/-- What is known of the map and of its entries. -/
def gMap (mb clk : Nat) (L : List Ent) : Gho := fun x y => (x = mb ∧ y = .obj (mapO L clk)) ∨ ∃ e ∈ L, x = e.blk ∧ y = .cells (ec e.b e.num)

structure MapOk (mb clk : Nat) (L : List Ent) : Prop where
  keys : ∀ e ∈ L, KeyOk e.b.k
  apart : L.Pairwise fun x y => x.b.k ≠ y.b.k
  blks : (mb :: L.map Ent.blk).Nodup
  nums : L.Pairwise fun x y => x.num < y.num
  clk : ∀ e ∈ L, e.num < clk

theorem kv_inj {a b : Key} (h : kv a = kv b) : a = b := by
  cases a; cases b
  simp only [kv, kc, Value.agg.injEq, Array.mk.injEq, List.cons.injEq, Value.int.injEq, true_and, and_true] at h
  obtain ⟨h0, h1, h2, h3, h4, h5, h6, h7, h8⟩ := h
  subst h0 h1 h2 h3 h4 h5 h6 h7 h8
  rfl

theorem find_ent {L : List Ent} (hk : ∀ e ∈ L, KeyOk e.b.k) {k : Key} (h : KeyOk k) (w : World) :
    ((Instr.findKey 25 (kv k) (L.map ment)).run Try.prog w = .ok none w ∧ ∀ e ∈ L, e.b.k ≠ k) ∨ ∃ j e, (Instr.findKey 25 (kv k) (L.map ment)).run Try.prog w = .ok (some (j, .pointer (some ⟨e.blk, 0, none⟩))) w ∧ L[j]? = some e ∧ e.b.k = k := by
  obtain ⟨l, hl⟩ := keyOf_kv h
  rcases K25.find w hl (L.map ment) (fun x hx => by
    obtain ⟨e, he, rfl⟩ := List.mem_map.1 hx
    exact keyOf_kv (hk e he)) with ⟨h1, h2⟩ | ⟨j, e, h1, h2, h3⟩
  · exact .inl ⟨h1, fun e he hek => h2 (ment e) (List.mem_map.2 ⟨e, he, rfl⟩) (by show kv e.b.k = kv k; rw [hek])⟩
  · simp only [List.getElem?_map] at h2
    cases hj : L[j]? with
    | none => rw [hj] at h2; cases h2
    | some e' =>
      rw [hj] at h2
      simp only [Option.map_some, Option.some.injEq] at h2
      subst h2
      exact .inr ⟨j, e', h1, hj, kv_inj h3⟩

theorem check_kv {k : Key} (h : KeyOk k) (em : Bool) (w : World) : (Instr.checkKey em 10000 25 (kv k)).run Try.prog w = .ok () w := by
  obtain ⟨l, hl⟩ := keyOf_kv h
  exact K25.check w em hl

theorem getObj_at {w : World} {b : Nat} {es : Array MapEntry} {c : Nat} (h : w.heap[b]? = some (.map es c)) : (getObj b).run Try.prog w = .ok (.map es c) w := by simp [getObj, Sem.run, h]
theorem und_run (t : TypeId) {d : TypeDesc} (h : Try.prog.underlying t = some d) (w : World) : (underlying t).run Try.prog w = .ok d w := by simp [run_underlying, h]

theorem run_lookup {w : World} {mb clk : Nat} {L : List Ent} (hw : w.heap[mb]? = some (mapO L clk)) (hk : ∀ e ∈ L, KeyOk e.b.k) {k : Key} (h : KeyOk k) :
    ((Instr.lookup 51 (.map (some mb)) (kv k) false).run Try.prog w = .ok (.pointer none) w ∧ ∀ e ∈ L, e.b.k ≠ k) ∨ ∃ (j : Nat) (e : Ent), (Instr.lookup 51 (.map (some mb)) (kv k) false).run Try.prog w = .ok (.pointer (some ⟨e.blk, 0, none⟩)) w ∧ L[j]? = some e ∧ e.b.k = k := by
  have hz : (zeroValue 53).run Try.prog w = .ok (.pointer none) w := by kernel_rfl
  rcases find_ent hk h w with ⟨h1, h2⟩ | ⟨j, e, h1, h2, h3⟩
  · refine .inl ⟨?_, h2⟩
    simp only [Instr.lookup, Sem.run_bind, und_run 51 und51, Result.andThen, getObj_at hw, mapO, Sem.run_pure, check_kv h, h1, hz]
    rfl
  · refine .inr ⟨j, e, ?_, h2, h3⟩
    simp only [Instr.lookup, Sem.run_bind, und_run 51 und51, Result.andThen, getObj_at hw, mapO, Sem.run_pure, check_kv h, h1]
    rfl

end Go.Proofs.Ytfkdcpinajnbfaa
