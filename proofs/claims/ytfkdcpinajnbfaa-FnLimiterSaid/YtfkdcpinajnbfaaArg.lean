/- Limiters as arguments: a struct with a slice of buckets, taken apart.
   Conditions: none. -/
import Derived.Test.YtfkdcpinajnbfaaSpecAllow
import Derived.Deep.Strs
open Go.Ab
set_option linter.unusedVariables false
set_option linter.unusedSimpArgs false
namespace Go.Proofs.Ytfkdcpinajnbfaa
set_option maxRecDepth 100000

theorem cn3 : Try.prog.cellsOf 3 = 1 := by kernel_rfl
theorem c5' : Try.prog.cellsOf 5 = 1 := by kernel_rfl
theorem cn25 : Try.prog.cellsOf 25 = 9 := by kernel_rfl
theorem cn67 : Try.prog.cellsOf 67 = 11 := by kernel_rfl
theorem cn22 : Try.prog.cellsOf 22 = 1 := by kernel_rfl
theorem cn24 : Try.prog.cellsOf 24 = 3 := by kernel_rfl
theorem u3 : Try.prog.underlying 3 = some (.int .i64) := by kernel_rfl
theorem u5 : Try.prog.underlying 5 = some (.int .u8) := by kernel_rfl

/-- A bucket whose numbers fit their kinds. -/
structure BkFit (b : Bk) : Prop where
  key : KeyOk b.k
  tok : IntKind.i64.has b.tok
  last : IntKind.i64.has b.last

theorem one_cell {cs : List Value} {i : Nat} {v : Value} (h : (cs.drop i).take 1 = [v]) : cs[i]? = some v := by
  have : ((cs.drop i).take 1)[0]? = some v := by rw [h]; rfl
  rw [List.getElem?_take] at this
  simpa using this

section
variable {H : Type} {enc : TypeId × Value → H} {w : World} {base : Nat} {spare : Nat → Bool} {held : Bool}
theorem int_cell {t : TypeId} {k : IntKind} (ht : Try.prog.underlying t = some (.int k)) {cs : List Value} {i fuel : Nat} {x : DataW H × List MemPlace} (h : DataW.trod enc Try.prog w base spare held fuel t ((cs.drop i).take 1) = some x) : ∃ n, cs[i]? = some (.int k n) ∧ k.has n := by
  obtain ⟨n, h1, _, h2⟩ := DataW.trod_int ht h
  refine ⟨n, one_cell h1, ?_⟩
  simp only [Lit.wf, Bool.and_eq_true, decide_eq_true_eq] at h2
  exact h2

theorem key_cells {cs : List Value} {fuel : Nat} {x : DataW H × List MemPlace} (h : DataW.trod enc Try.prog w base spare held fuel 25 cs = some x) : ∀ i, i < 9 → ∃ n, cs[i]? = some (.int .u8 n) ∧ IntKind.u8.has n := fun i hi => by
  obtain ⟨xs, m, _, _, hl, hx, hf⟩ := DataW.trod_array Try.underlying25 h
  have h1 := hf i hi
  rw [c5', Nat.mul_one] at h1
  obtain ⟨y, hy⟩ : ∃ y, xs[i]? = some y := ⟨_, List.getElem?_eq_getElem (by omega)⟩
  rw [hy] at h1
  exact int_cell u5 h1

theorem bk_cells {cs : List Value} {fuel : Nat} {x : DataW H × List MemPlace} (h : DataW.trod enc Try.prog w base spare held fuel 67 cs = some x) : ∃ b, BkFit b ∧ ∀ j, j < 11 → cs[j]? = (bc b)[j]? := by
  obtain ⟨y0, y1, y2, n, _, hl, h0, h1, h2⟩ := Deep.trod_struct3 Try.underlying67 h
  rw [cn67] at hl
  simp only [cn25, cn3] at h0 h1 h2
  have hk := key_cells h0
  have get : ∀ i, i < 9 → ∃ n, cs[i]? = some (.int .u8 n) ∧ IntKind.u8.has n := fun i hi => by
    obtain ⟨n, hn, hr⟩ := hk i hi
    rw [List.getElem?_take, if_pos hi] at hn
    simp only [List.drop_zero] at hn
    exact ⟨n, hn, hr⟩
  obtain ⟨a0, e0, r0⟩ := get 0 (by decide)
  obtain ⟨a1, e1, r1⟩ := get 1 (by decide)
  obtain ⟨a2, e2, r2⟩ := get 2 (by decide)
  obtain ⟨a3, e3, r3⟩ := get 3 (by decide)
  obtain ⟨a4, e4, r4⟩ := get 4 (by decide)
  obtain ⟨a5, e5, r5⟩ := get 5 (by decide)
  obtain ⟨a6, e6, r6⟩ := get 6 (by decide)
  obtain ⟨a7, e7, r7⟩ := get 7 (by decide)
  obtain ⟨a8, e8, r8⟩ := get 8 (by decide)
  obtain ⟨t, e9, r9⟩ := int_cell u3 h1
  obtain ⟨l, e10, r10⟩ := int_cell u3 h2
  refine ⟨⟨⟨a0, a1, a2, a3, a4, a5, a6, a7, a8⟩, t, l⟩, ⟨⟨r0, r1, r2, r3, r4, r5, r6, r7, r8⟩, r9, r10⟩, fun j hj => ?_⟩
  match j, hj with
  | 0, _ => exact e0
  | 1, _ => exact e1
  | 2, _ => exact e2
  | 3, _ => exact e3
  | 4, _ => exact e4
  | 5, _ => exact e5
  | 6, _ => exact e6
  | 7, _ => exact e7
  | 8, _ => exact e8
  | 9, _ => exact e9
  | 10, _ => exact e10

theorem bc_ground (b : Bk) {j : Nat} (hj : j < 11) : ∃ v, (bc b)[j]? = some v ∧ ground v = true ∧ v.oneCell' = true := by
  match j, hj with
  | 0, _ => exact ⟨_, rfl, rfl, rfl⟩
  | 1, _ => exact ⟨_, rfl, rfl, rfl⟩
  | 2, _ => exact ⟨_, rfl, rfl, rfl⟩
  | 3, _ => exact ⟨_, rfl, rfl, rfl⟩
  | 4, _ => exact ⟨_, rfl, rfl, rfl⟩
  | 5, _ => exact ⟨_, rfl, rfl, rfl⟩
  | 6, _ => exact ⟨_, rfl, rfl, rfl⟩
  | 7, _ => exact ⟨_, rfl, rfl, rfl⟩
  | 8, _ => exact ⟨_, rfl, rfl, rfl⟩
  | 9, _ => exact ⟨_, rfl, rfl, rfl⟩
  | 10, _ => exact ⟨_, rfl, rfl, rfl⟩

/-- In this memory a bucket lies here. -/
def BkAt (M : Mem) (b off : Nat) (x : Bk) : Prop := ∀ j, j < 11 → M b (off + j) = (bc x)[j]?

theorem BkAt.shape {M : Mem} {b off : Nat} {x : Bk} (h : BkAt M b off x) : shpMB M b off shBk = true ∧ bkM M b off = x := by
  have h0 := h 0 (by decide)
  have h1 := h 1 (by decide)
  have h2 := h 2 (by decide)
  have h3 := h 3 (by decide)
  have h4 := h 4 (by decide)
  have h5 := h 5 (by decide)
  have h6 := h 6 (by decide)
  have h7 := h 7 (by decide)
  have h8 := h 8 (by decide)
  have h9 := h 9 (by decide)
  have h10 := h 10 (by decide)
  simp only [bc, List.getElem?_cons_succ, List.getElem?_cons_zero, Nat.add_zero] at h0 h1 h2 h3 h4 h5 h6 h7 h8 h9 h10
  constructor
  · simp only [shpMB, shBk, Nat.add_assoc, Nat.reduceAdd, h0, h1, h2, h3, h4, h5, h6, h7, h8, h9, h10]
    rfl
  · unfold bkM
    simp only [h0, h1, h2, h3, h4, h5, h6, h7, h8, h9, h10]
    rfl
end

theorem slice_cell {P : Program} {W : World} {base : Nat} {t e : TypeId} (ht : P.underlying t = some (.slice e)) {v : Value} (hcell : Cell.okWide P W .any base t v) : v = .slice none 0 0 ∨ ∃ a len cap, v = .slice (some a) len cap ∧ a.spot = none ∧ len ≤ cap ∧ (cap : Int) ≤ 9223372036854775807 := by
  simp only [Cell.okWide, ht, Cell.ok] at hcell
  cases v <;> try simp only [ht] at hcell
  case slice o n c =>
    cases o with
    | none =>
      left
      cases n with
      | zero => cases c with
        | zero => rfl
        | succ c => exact absurd hcell id
      | succ n => exact absurd hcell id
    | some a => right; exact ⟨a, n, c, rfl, hcell.2.2.2.1, hcell.1, hcell.2.1⟩
  all_goals exact absurd hcell id

/-- A limiter that is handed over. -/
theorem lim_arg {H : Type} {enc : TypeId × Value → H} {W : World} {base : Nat} {v : Value} {d : DataW H} {ps : List MemPlace} (hval : Value.okWide Try.prog W .any base 24 v) (hd : DataW.Trod enc Try.prog W 0 (fun _ => true) true 24 v d ps) :
    ∃ most sw, IntKind.i64.has most ∧ IntKind.i64.has sw ∧ (v = .agg ⟨[.int .i64 most, .int .i64 sw, .slice none 0 0]⟩ ∨
      ∃ b off n c, v = .agg ⟨[.int .i64 most, .int .i64 sw, slM b off n c]⟩ ∧ n ≤ c ∧ c ≤ 9223372036854775807 ∧ ∀ i, i < n → ∃ x, BkFit x ∧ BkAt (memOf W) b (off + i * 11) x) := by
  unfold Value.okWide at hval
  rw [Try.underlying24] at hval
  obtain ⟨⟨cs⟩, rfl, hs, ts, hts, _, hcell⟩ := hval
  have ets : ts = [3, 3, 22] := by
    have : Try.prog.cellTypes Try.prog.depth 24 = some [3, 3, 22] := by kernel_rfl
    rw [this] at hts; cases hts; rfl
  subst ets
  rw [cn24] at hs
  have hlen : cs.length = 3 := by simpa using hs
  match cs, hlen with
  | [v0, v1, v2], _ =>
    have k0 : ckOf Try.prog 3 = some (.int .i64) := by kernel_rfl
    obtain ⟨u, hu, hc0⟩ := hcell 0 v0 rfl
    cases hu
    obtain ⟨most, rfl, r0⟩ := cell_ok k0 hc0
    obtain ⟨u, hu, hc1⟩ := hcell 1 v1 rfl
    cases hu
    obtain ⟨sw, rfl, r1⟩ := cell_ok k0 hc1
    obtain ⟨u, hu, hc2⟩ := hcell 2 v2 rfl
    cases hu
    refine ⟨most, sw, r0, r1, ?_⟩
    have hv := slice_cell Try.underlying22 hc2
    rcases hv with rfl | ⟨⟨b, off, spot⟩, n, c, rfl, hspot, hlc, hcap⟩
    · exact .inl rfl
    right
    simp only at hspot
    subst hspot
    obtain ⟨fuel, hd⟩ := hd
    obtain ⟨y0, y1, y2, m, _, _, _, _, h2⟩ := Deep.trod_struct3 Try.underlying24 hd
    simp only [cn22] at h2
    have h3 : DataW.trod enc Try.prog W 0 (fun _ => true) true m 22 [.slice (some ⟨b, off, none⟩) n c] = some y2 := h2
    refine ⟨b, off, n, c, rfl, hlc, by omega, fun i hi => ?_⟩
    rcases DataW.trod_slice Try.underlying22 h3 with ⟨h, _⟩ | ⟨a, len, cap, elems, rest, n', _, hcs, _, _, _, _, hel, hat, _, _⟩
    · cases h
    · cases hcs
      have h4 := hat i hi
      obtain ⟨y, hy⟩ : ∃ y, elems[i]? = some y := ⟨_, List.getElem?_eq_getElem (by omega)⟩
      rw [hy, cn67, add_lit, Option.bind_eq_some_iff] at h4
      obtain ⟨cs', hc', hy'⟩ := h4
      obtain ⟨x, hx, hcx⟩ := bk_cells hy'
      obtain ⟨_, hlen', hget⟩ := World.cells?_some hc'
      refine ⟨x, hx, fun j hj => ?_⟩
      obtain ⟨v, hv, hg, ho⟩ := bc_ground x hj
      have h5 := hget j hj
      rw [add_lit] at h5
      rw [hcx j hj, hv] at h5
      rw [hv]
      unfold memOf
      rw [h5]
      simp only [hg, ho, Bool.and_self, if_true]

/-- What is read of it. -/
theorem lim_rows {M : Mem} {b off n : Nat} (h : ∀ i, i < n → ∃ x, BkFit x ∧ BkAt M b (off + i * 11) x) : rowsM M b off n = true ∧ ∀ x ∈ lstM M b off n, BkFit x := by
  constructor
  · exact List.all_eq_true.2 fun i hi => by
      obtain ⟨x, _, hx⟩ := h i (List.mem_range.1 hi)
      exact hx.shape.1
  · intro x hx
    obtain ⟨i, hi, rfl⟩ := List.mem_map.1 hx
    obtain ⟨y, hf, hy⟩ := h i (List.mem_range.1 hi)
    rw [hy.shape.2]
    exact hf

theorem key_arg {W : World} {base : Nat} {v : Value} (hval : Value.okWide Try.prog W .any base 25 v) : ∃ k, KeyOk k ∧ v = kv k := by
  obtain ⟨cs, rfl, hc⟩ := flat_ok (ks := List.replicate 9 (.int .u8)) (by kernel_rfl) hval
  obtain ⟨l, hl, rfl, hr⟩ := cvs_ints hc
  match l, hl with
  | [a0, a1, a2, a3, a4, a5, a6, a7, a8], _ =>
    refine ⟨⟨a0, a1, a2, a3, a4, a5, a6, a7, a8⟩, ⟨?_, ?_, ?_, ?_, ?_, ?_, ?_, ?_, ?_⟩, rfl⟩
    all_goals exact hr _ (by simp)
end Go.Proofs.Ytfkdcpinajnbfaa
