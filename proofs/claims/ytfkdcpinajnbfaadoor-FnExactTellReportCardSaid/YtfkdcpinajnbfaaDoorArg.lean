/- Reports as arguments: taken apart.
   Conditions: none. -/
import Derived.Test.YtfkdcpinajnbfaaDoorLawW
import Derived.Deep.Strs
import Derived.ChangeArms
open Go.Ab Go.Num
set_option linter.unusedVariables false
set_option linter.unusedSimpArgs false
namespace Go.Proofs.YtfkdcpinajnbfaaDoor
set_option maxRecDepth 100000
theorem u3 : Tryd.prog.underlying 3 = some (.int .i64) := by kernel_rfl
theorem u4 : Tryd.prog.underlying 4 = some .bool := by kernel_rfl
theorem u5 : Tryd.prog.underlying 5 = some (.int .u8) := by kernel_rfl
theorem u40 : Tryd.prog.underlying 40 = some (.int .u16) := by kernel_rfl
theorem u39 : Tryd.prog.underlying 39 = some (.array 16 5) := by kernel_rfl
theorem u43 : Tryd.prog.underlying 43 = some (.array 32 5) := by kernel_rfl
theorem cn3 : Tryd.prog.cellsOf 3 = 1 := by kernel_rfl
theorem cn4 : Tryd.prog.cellsOf 4 = 1 := by kernel_rfl
theorem cn5 : Tryd.prog.cellsOf 5 = 1 := by kernel_rfl
theorem cn40 : Tryd.prog.cellsOf 40 = 1 := by kernel_rfl
theorem cn39 : Tryd.prog.cellsOf 39 = 16 := by kernel_rfl
theorem cn43 : Tryd.prog.cellsOf 43 = 32 := by kernel_rfl
theorem cn56 : Tryd.prog.cellsOf 56 = 18 := by kernel_rfl
theorem cn26 : Tryd.prog.cellsOf 26 = 1 := by kernel_rfl
theorem cn58 : Tryd.prog.cellsOf 58 = 87 := by kernel_rfl
theorem cn22 : Tryd.prog.cellsOf 22 = 1 := by kernel_rfl
theorem cn24 : Tryd.prog.cellsOf 24 = 3 := by kernel_rfl
theorem has_i64 {n : Int} (h : IntKind.i64.has n) : i64B n = true := decide_eq_true h
theorem has_u8 {n : Int} (h : IntKind.u8.has n) : 0 ≤ n ∧ n < 256 := by
  obtain ⟨h1, h2⟩ := h
  have e1 : IntKind.u8.min = 0 := by decide
  have e2 : IntKind.u8.max = 255 := by decide
  rw [e1] at h1; rw [e2] at h2; omega
theorem has_u16 {n : Int} (h : IntKind.u16.has n) : 0 ≤ n ∧ n < 65536 := by
  obtain ⟨h1, h2⟩ := h
  have e1 : IntKind.u16.min = 0 := by decide
  have e2 : IntKind.u16.max = 65535 := by decide
  rw [e1] at h1; rw [e2] at h2; omega
theorem cut_at (l : List Value) (a k : Nat) : l.drop a = (l.drop a).take k ++ l.drop (a + k) := by
  have := (List.take_append_drop k (l.drop a)).symm
  rwa [List.drop_drop] at this
section
variable {H : Type} {enc : TypeId × Value → H} {w : World} {base : Nat} {spare : Nat → Bool} {held : Bool}
theorem int_part {t : TypeId} {k : IntKind} (ht : Tryd.prog.underlying t = some (.int k)) {cs : List Value} {fuel : Nat} {x : DataW H × List MemPlace} (h : DataW.trod enc Tryd.prog w base spare held fuel t cs = some x) : ∃ n, cs = [.int k n] ∧ k.has n := by
  obtain ⟨n, h1, _, h2⟩ := DataW.trod_int ht h
  refine ⟨n, h1, ?_⟩
  simp only [Lit.wf, Bool.and_eq_true, decide_eq_true_eq] at h2
  exact h2
theorem arr_part {t : TypeId} {n : Nat} (ht : Tryd.prog.underlying t = some (.array n 5)) {cs : List Value} (hl : cs.length = n) {fuel : Nat} {x : DataW H × List MemPlace} (h : DataW.trod enc Tryd.prog w base spare held fuel t cs = some x) : cs = cellsI .u8 n (wd cs) ∧ isB8 (wd cs) n := by
  obtain ⟨xs, m, _, _, hlen, hx, hf⟩ := DataW.trod_array ht h
  have key : ∀ i, i < n → ∃ v, cs[i]? = some (.int .u8 v) ∧ IntKind.u8.has v := fun i hi => by
    have h1 := hf i hi
    rw [cn5, Nat.mul_one] at h1
    obtain ⟨y, hy⟩ : ∃ y, xs[i]? = some y := ⟨_, List.getElem?_eq_getElem (by omega)⟩
    rw [hy] at h1
    obtain ⟨v, h2, h3⟩ := int_part u5 h1
    refine ⟨v, ?_, h3⟩
    have : ((cs.drop i).take 1)[0]? = some (.int .u8 v) := by rw [h2]; rfl
    rw [List.getElem?_take] at this
    simpa using this
  refine ⟨?_, fun i hi => ?_⟩
  · apply List.ext_getElem?
    intro i
    by_cases hi : i < n
    · obtain ⟨v, h1, _⟩ := key i hi
      rw [h1]
      have e : wd cs i = v := by unfold wd atC; rw [h1]; rfl
      simp [cellsI, hi, e]
    · rw [List.getElem?_eq_none (by omega), List.getElem?_eq_none (by rw [cellsI_length]; omega)]
  · obtain ⟨v, h1, h2⟩ := key i hi
    have e : wd cs i = v := by unfold wd atC; rw [h1]; rfl
    rw [e]; exact has_u8 h2
theorem src_part {cs : List Value} {fuel : Nat} {x : DataW H × List MemPlace} (h : DataW.trod enc Tryd.prog w base spare held fuel 56 cs = some x) : ∃ v6 addr port, cs = srcCells v6 addr port ∧ isB8 addr 16 ∧ (0 ≤ port ∧ port < 65536) := by
  obtain ⟨y0, y1, y2, n, _, hl, h0, h1, h2⟩ := Deep.trod_struct3 Tryd.underlying56 h
  rw [cn56] at hl
  simp only [cn4, cn39, cn40] at h0 h1 h2
  obtain ⟨v6, e0, _⟩ := DataW.trod_bool u4 h0
  obtain ⟨e1, b1⟩ := arr_part u39 (by simp [List.length_take, List.length_drop]; omega) h1
  obtain ⟨port, e2, b2⟩ := int_part u40 h2
  refine ⟨v6, _, port, ?_, b1, has_u16 b2⟩
  have c0 := cut_at cs 0 1
  have c1 := cut_at cs 1 16
  have c2 := cut_at cs 17 1
  have c3 : cs.drop 18 = [] := List.drop_eq_nil_iff.2 (by omega)
  rw [List.drop_zero] at c0
  rw [c3] at c2
  have e0' : cs.take 1 = [.bool v6] := by simpa using e0
  simp only [srcCells]
  rw [← e1]
  conv => lhs; rw [c0, e0', c1, c2, e2]
  simp
/-- An observation's cells. -/
theorem obs_part {cs : List Value} {fuel : Nat} {x : DataW H × List MemPlace} (h : DataW.trod enc Tryd.prog w base spare held fuel 58 cs = some x) : ∃ (o : Ob) (sv : Value) (m : Nat) (y : DataW H × List MemPlace), ObOk o ∧ cs = obC o sv ∧ DataW.trod enc Tryd.prog w base spare held m 26 [sv] = some y := by
  obtain ⟨xs, n, _, _, hl, hx, hf⟩ := DataW.trod_struct Tryd.underlying58 h
  rw [cn58] at hl
  have hx : xs.length = 8 := hx
  match xs, hx with
  | [x0, x1, x2, x3, x4, x5, x6, x7], _ =>
    have f0 : DataW.trod enc Tryd.prog w base spare held n 3 ((cs.drop 0).take (Tryd.prog.cellsOf 3)) = some x0 := hf 0 _ rfl
    have f1 : DataW.trod enc Tryd.prog w base spare held n 3 ((cs.drop 1).take (Tryd.prog.cellsOf 3)) = some x1 := hf 1 _ rfl
    have f2 : DataW.trod enc Tryd.prog w base spare held n 4 ((cs.drop 2).take (Tryd.prog.cellsOf 4)) = some x2 := hf 2 _ rfl
    have f3 : DataW.trod enc Tryd.prog w base spare held n 56 ((cs.drop 3).take (Tryd.prog.cellsOf 56)) = some x3 := hf 3 _ rfl
    have f4 : DataW.trod enc Tryd.prog w base spare held n 26 ((cs.drop 21).take (Tryd.prog.cellsOf 26)) = some x4 := hf 4 _ rfl
    have f5 : DataW.trod enc Tryd.prog w base spare held n 3 ((cs.drop 22).take (Tryd.prog.cellsOf 3)) = some x5 := hf 5 _ rfl
    have f6 : DataW.trod enc Tryd.prog w base spare held n 43 ((cs.drop 23).take (Tryd.prog.cellsOf 43)) = some x6 := hf 6 _ rfl
    have f7 : DataW.trod enc Tryd.prog w base spare held n 43 ((cs.drop 55).take (Tryd.prog.cellsOf 43)) = some x7 := hf 7 _ rfl
    rw [cn3] at f0
    rw [cn3] at f1
    rw [cn4] at f2
    rw [cn56] at f3
    rw [cn26] at f4
    rw [cn3] at f5
    rw [cn43] at f6
    rw [cn43] at f7
    obtain ⟨vd, e0, b0⟩ := int_part u3 f0
    obtain ⟨dh, e1, b1⟩ := int_part u3 f1
    obtain ⟨ld, e2, _⟩ := DataW.trod_bool u4 f2
    obtain ⟨v6, addr, port, e3, b3, b4⟩ := src_part f3
    obtain ⟨cl, e5, b5⟩ := int_part u3 f5
    obtain ⟨e6, b6⟩ := arr_part u43 (by simp [List.length_take, List.length_drop]; omega) f6
    obtain ⟨e7, b7⟩ := arr_part u43 (by simp [List.length_take, List.length_drop]; omega) f7
    obtain ⟨sv, e4⟩ : ∃ sv, (cs.drop 21).take 1 = [sv] := by
      have : ((cs.drop 21).take 1).length = 1 := by simp [List.length_take, List.length_drop]; omega
      match (cs.drop 21).take 1, this with
      | [sv], _ => exact ⟨sv, rfl⟩
    rw [e4] at f4
    refine ⟨⟨vd, dh, ld, v6, addr, port, cl, wd ((cs.drop 23).take 32), wd ((cs.drop 55).take 32)⟩, sv, n, x4, ⟨has_i64 b0, has_i64 b1, has_i64 b5, b3, b4, b6, b7⟩, ?_, f4⟩
    have c0 := cut_at cs 0 1
    have c1 := cut_at cs 1 1
    have c2 := cut_at cs 2 1
    have c3 := cut_at cs 3 18
    have c4 := cut_at cs 21 1
    have c5 := cut_at cs 22 1
    have c6 := cut_at cs 23 32
    have c7 := cut_at cs 55 32
    have c8 : cs.drop 87 = [] := List.drop_eq_nil_iff.2 (by omega)
    rw [c8] at c7
    rw [List.drop_zero] at c0
    have e0' : cs.take 1 = [.int .i64 vd] := by simpa using e0
    simp only [obC]
    rw [← e6, ← e7, ← e3]
    conv => lhs; rw [c0, e0', c1, e1, c2, e2, c3, c4, e4, c5, e5, c6, c7]
    simp
end
theorem slice_cell {P : Program} {W : World} {base : Nat} {t e : TypeId} (ht : P.underlying t = some (.slice e)) {v : Value} (hcell : Cell.okWide P W .any base t v) : v = .slice none 0 0 ∨ ∃ a len cap, v = .slice (some a) len cap ∧ a.spot = none ∧ len ≤ cap ∧ (cap : Int) ≤ 9223372036854775807 := by
  simp only [Cell.okWide, ht, Cell.ok] at hcell
  cases v <;> try simp only [ht] at hcell
  case slice o n c =>
    cases o with
    | none =>
      left
      cases n with
      | zero => cases c with
        | zero => rfl
        | succ c => exact absurd hcell id
      | succ n => exact absurd hcell id
    | some a => right; exact ⟨a, n, c, rfl, hcell.2.2.2.1, hcell.1, hcell.2.1⟩
  all_goals exact absurd hcell id

/-- The memory that a call sees: each cell, and each block whole. -/
noncomputable def memB (W : World) : Mem := memL ⟨fun _ _ => none, fun k => W.heap[k]?⟩ W
theorem ro_memB (W : World) : RoOk (memB W) W := ro_memL ⟨fun b off v h => (by cases h), fun b x h => h⟩
theorem memB_cell {W : World} {b off : Nat} {v : Value} (h : W.cell? ⟨b, off, none⟩ = some v) (hg : ground v = true) (ho : v.oneCell' = true) : memB W b off = some v := by
  show memCells W b off = _
  unfold memCells
  rw [h]
  simp only [hg, ho, Bool.and_self, if_true]
theorem spot_cell {W : World} {a : Addr} (hs : a.spot ≠ none) {i : Nat} {v : Value} (hi : i = 0) (h : W.cell? (a.add i) = some v) : False := by
  subst hi
  have : a.add 0 = a := by simp [Addr.add]
  rw [this] at h
  exact hs (World.cell?_spot h)
theorem spot_cells {W : World} {a : Addr} (hs : a.spot ≠ none) {base : Nat} : W.cells? base (a.add 0) 1 = none := by
  cases h : W.cells? base (a.add 0) 1 with
  | none => rfl
  | some cs =>
    obtain ⟨_, hl, hg⟩ := World.cells?_some h
    have h0 := hg 0 (by omega)
    have : (a.add 0).add 0 = a := by simp [Addr.add]
    rw [this] at h0
    obtain ⟨v, hv⟩ : ∃ v, cs[0]? = some v := ⟨_, List.getElem?_eq_getElem (by omega)⟩
    rw [hv] at h0
    exact absurd (World.cell?_spot h0) hs
/-- A row's slice of bytes. -/
inductive OutOf (W : World) (sv : Value) : Prop where
  | plain (s : Out) (h : sv = s.sl) (hc : s.len ≤ 9223372036854775807) (hro : s.zz = false → ∀ j, j < s.n → roB .u8 (memB W) s.b (s.off + j) = true) (hb : isB8 (s.byte (memB W)) s.len)
  | odd (a : Addr) (h : sv = .slice (some a) 0 0)
section
variable {H : Type} {enc : TypeId × Value → H} {W : World} {base : Nat} {held : Bool}
theorem out_part {sv : Value} {fuel : Nat} {x : DataW H × List MemPlace} (h : DataW.trod enc Tryd.prog W base (fun _ => true) held fuel 26 [sv] = some x) : OutOf W sv := by
  rcases DataW.trod_slice Tryd.underlying26 h with ⟨h, _⟩ | ⟨a, len, cap, elems, rest, n', _, hcs, _, _, hlc, hm, hel, hat, hsp, _⟩
  · cases h
    exact .plain ⟨true, 0, 0, 0, 0⟩ rfl (by decide) (fun h => by cases h) (fun i hi => absurd hi (Nat.not_lt_zero _))
  · cases hcs
    by_cases hs : a.spot = none
    · obtain ⟨b, off, spot⟩ := a
      simp only at hs
      subst hs
      have key : ∀ j, j < len → ∃ k : Int, W.cell? ⟨b, off + j, none⟩ = some (.int .u8 k) ∧ IntKind.u8.has k := fun j hj => by
        have h4 := hat j hj
        obtain ⟨y, hy⟩ : ∃ y, elems[j]? = some y := ⟨_, List.getElem?_eq_getElem (by omega)⟩
        rw [hy, cn5, add_lit, Option.bind_eq_some_iff] at h4
        obtain ⟨cs', hc', hy'⟩ := h4
        obtain ⟨k, rfl, hk⟩ := int_part u5 hy'
        obtain ⟨_, _, hget⟩ := World.cells?_some hc'
        have h5 := hget 0 (by omega)
        rw [add_lit, Nat.add_zero, Nat.mul_one] at h5
        exact ⟨k, h5, hk⟩
      have key2 : ∀ j, j < len → ∃ k : Int, memB W b (off + j) = some (.int .u8 k) ∧ IntKind.u8.has k := fun j hj => by
        obtain ⟨k, h1, h2⟩ := key j hj
        exact ⟨k, memB_cell h1 rfl rfl, h2⟩
      have hm' : cap ≤ 9223372036854775807 := hm
      refine .plain ⟨false, b, off, len, cap⟩ rfl (Nat.le_trans hlc hm') (fun _ j hj => ?_) (fun j hj => ?_)
      · obtain ⟨k, h1, _⟩ := key2 j hj
        simp only [roB, h1]
        rfl
      · obtain ⟨k, h1, h2⟩ := key2 j hj
        have : Out.byte (memB W) ⟨false, b, off, len, cap⟩ j = k := by
          unfold Out.byte roN
          simp only [h1]
          rfl
        rw [this]; exact has_u8 h2
    · have hz : cap = 0 := by
        refine Nat.eq_zero_of_not_pos fun hc => ?_
        obtain ⟨hr, hrat⟩ := hsp rfl
        by_cases hl : len = 0
        · subst hl
          have h4 := hrat 0 (by omega)
          obtain ⟨y, hy⟩ : ∃ y, rest[0]? = some y := ⟨_, List.getElem?_eq_getElem (by omega)⟩
          rw [hy, cn5, Nat.mul_one, Nat.add_zero, spot_cells hs] at h4
          cases h4
        · have h4 := hat 0 (by omega)
          obtain ⟨y, hy⟩ : ∃ y, elems[0]? = some y := ⟨_, List.getElem?_eq_getElem (by omega)⟩
          rw [hy, cn5, Nat.mul_one, spot_cells hs] at h4
          cases h4
      subst hz
      obtain rfl : len = 0 := by omega
      exact .odd a rfl

theorem obC_each (o : Ob) {s : Value} (hs : ground s = true ∧ s.oneCell' = true) : ∀ v ∈ obC o s, ground v = true ∧ v.oneCell' = true := by
  intro v hv
  have hcl : ∀ (n : Nat) (f : Nat → Int), v ∈ cellsI .u8 n f → ground v = true ∧ v.oneCell' = true := fun n f h => by
    obtain ⟨i, _, rfl⟩ := List.mem_map.1 h
    exact ⟨rfl, rfl⟩
  simp only [obC, srcCells, List.mem_append, List.mem_cons, List.not_mem_nil, or_false] at hv
  rcases hv with ((((rfl | rfl | rfl) | ((rfl | h) | rfl)) | (rfl | rfl)) | h) | h
  all_goals first | exact ⟨rfl, rfl⟩ | exact hs | exact hcl _ _ h

/-- What a report's row is. -/
def RowOk (W : World) (b off : Nat) (r : Row) : Prop :=
  (RowAt (memB W) b off r.cells ∨ (r.2.zz = true ∧ OddAt (memB W) b off r.1)) ∧ r.2.len ≤ 9223372036854775807 ∧ ObOk r.1 ∧ (r.2.zz = false → ∀ j, j < r.2.n → roB .u8 (memB W) r.2.b (r.2.off + j) = true) ∧ isB8 (r.2.byte (memB W)) r.2.len

theorem row_part {b off : Nat} {cs : List Value} {fuel : Nat} {x : DataW H × List MemPlace} (h : DataW.trod enc Tryd.prog W base (fun _ => true) held fuel 58 cs = some x) (hc : W.cells? base ⟨b, off, none⟩ 87 = some cs) : ∃ r, RowOk W b off r := by
  obtain ⟨o, sv, m, y, ho, hcs, hsv⟩ := obs_part h
  obtain ⟨_, hl, hget⟩ := World.cells?_some hc
  simp only [add_lit] at hget
  cases out_part hsv with
  | plain s hs hlen hro hb =>
    refine ⟨(o, s), .inl fun j hj => ?_, hlen, ho, hro, hb⟩
    have hg : ground s.sl = true ∧ s.sl.oneCell' = true := by
      obtain ⟨zz, b, off, n, c⟩ := s
      cases zz <;> exact ⟨rfl, rfl⟩
    have hj' : j < cs.length := by rw [hcs, hs]; exact hj
    obtain ⟨v, hv⟩ : ∃ v, cs[j]? = some v := ⟨_, List.getElem?_eq_getElem hj'⟩
    have h2 : Row.cells (o, s) = cs := by rw [hcs, hs]; rfl
    rw [h2, hv]
    have h3 := obC_each o hg v (by rw [← hs, ← hcs]; exact List.mem_of_getElem? hv)
    exact memB_cell ((hget j (by omega)).trans hv) h3.1 h3.2
  | odd a hs =>
    refine ⟨(o, ⟨true, 0, 0, 0, 0⟩), .inr ⟨rfl, ?_⟩, Nat.zero_le _, ho, fun h => (by cases h), fun i hi => absurd hi (Nat.not_lt_zero _)⟩
    have h0 := hget 0 (by omega)
    obtain ⟨v0, hv0⟩ : ∃ v, cs[0]? = some v := ⟨_, List.getElem?_eq_getElem (by omega)⟩
    rw [hv0] at h0
    have hblk : ∃ c t fz, W.heap[b]? = some (.cells c t fz) := by
      unfold World.cell? at h0
      split at h0
      · rename_i c t fz hc; exact ⟨c, t, fz, hc⟩
      · cases h0
    obtain ⟨c, t, fz, hblk⟩ := hblk
    refine ⟨c, t, fz, a, hblk, fun j v hv => ?_⟩
    have hv' : cs[j]? = some v := by rw [hcs, hs]; exact hv
    have hj : j < 87 := by
      have := (List.getElem?_eq_some_iff.1 hv').1
      omega
    have h1 := (hget j hj).trans hv'
    unfold World.cell? at h1
    simp only [hblk, Option.isSome_none, Bool.false_eq_true, if_false] at h1
    exact h1

/-- A report that is handed over. -/
theorem rep_arg {v : Value} {d : DataW H} {ps : List MemPlace} (hval : Value.okWide Tryd.prog W .any base 24 v) (hd : DataW.Trod enc Tryd.prog W 0 (fun _ => true) true 24 v d ps) :
    ∃ (s : Out) (R : List Row) (dh code : Int), v = repA s dh code ∧ RawIn (memB W) s R ∧ (∀ r ∈ R, ObOk r.1) ∧ i64B dh = true ∧ i64B code = true ∧
      (∀ r ∈ R, r.2.zz = false → ∀ j, j < r.2.n → roB .u8 (memB W) r.2.b (r.2.off + j) = true) ∧ ∀ r ∈ R, isB8 (r.2.byte (memB W)) r.2.len := by
  unfold Value.okWide at hval
  rw [Tryd.underlying24] at hval
  obtain ⟨⟨cs⟩, rfl, hs, ts, hts, _, hcell⟩ := hval
  have ets : ts = [22, 3, 3] := by
    have : Tryd.prog.cellTypes Tryd.prog.depth 24 = some [22, 3, 3] := by kernel_rfl
    rw [this] at hts; cases hts; rfl
  subst ets
  rw [cn24] at hs
  have hlen : cs.length = 3 := by simpa using hs
  match cs, hlen with
  | [v0, v1, v2], _ =>
    have k0 : ckOf Tryd.prog 3 = some (.int .i64) := by kernel_rfl
    obtain ⟨u, hu, hc1⟩ := hcell 1 v1 rfl
    cases hu
    obtain ⟨dh, rfl, r0⟩ := cell_ok k0 hc1
    obtain ⟨u, hu, hc2⟩ := hcell 2 v2 rfl
    cases hu
    obtain ⟨code, rfl, r1⟩ := cell_ok k0 hc2
    obtain ⟨u, hu, hc0⟩ := hcell 0 v0 rfl
    cases hu
    have hv := slice_cell Tryd.underlying22 hc0
    rcases hv with rfl | ⟨⟨b, off, spot⟩, n, c, rfl, hspot, hlc, hcap⟩
    · refine ⟨⟨true, 0, 0, 0, 0⟩, [], dh, code, rfl, ⟨rfl, by decide, fun h => (by cases h), fun r h => (by cases h)⟩, fun r h => (by cases h), has_i64 r0, has_i64 r1, fun r h => (by cases h), fun r h => (by cases h)⟩
    simp only at hspot
    subst hspot
    obtain ⟨fuel, hd⟩ := hd
    obtain ⟨y0, y1, y2, m, _, _, h0, _, _⟩ := Deep.trod_struct3 Tryd.underlying24 hd
    simp only [cn22] at h0
    have h3 : DataW.trod enc Tryd.prog W 0 (fun _ => true) true m 22 [.slice (some ⟨b, off, none⟩) n c] = some y0 := h0
    have rows : ∀ i, i < n → ∃ r, RowOk W b (off + i * 87) r := fun i hi => by
      rcases DataW.trod_slice Tryd.underlying22 h3 with ⟨h, _⟩ | ⟨a, len, cap, elems, rest, n', _, hcs, _, _, _, _, hel, hat, _, _⟩
      · cases h
      · cases hcs
        have h4 := hat i hi
        obtain ⟨y, hy⟩ : ∃ y, elems[i]? = some y := ⟨_, List.getElem?_eq_getElem (by omega)⟩
        rw [hy, cn58, add_lit, Option.bind_eq_some_iff] at h4
        obtain ⟨cs', hc', hy'⟩ := h4
        exact row_part hy' hc'
    have rows' : ∀ i, ∃ r, i < n → RowOk W b (off + i * 87) r := fun i => by
      by_cases hi : i < n
      · obtain ⟨r, hr⟩ := rows i hi
        exact ⟨r, fun _ => hr⟩
      · exact ⟨(zeroOb, ⟨true, 0, 0, 0, 0⟩), fun h => absurd h hi⟩
    obtain ⟨f, hf⟩ := Classical.skolem.1 rows'
    have hget : ∀ (i : Nat) r, ((List.range n).map f)[i]? = some r → RowOk W b (off + i * 87) r := fun i r h => by
      rw [List.getElem?_map] at h
      have hi : i < n := by
        refine Decidable.byContradiction fun hi => ?_
        rw [List.getElem?_eq_none (by rw [List.length_range]; omega)] at h
        cases h
      rw [List.getElem?_range hi] at h
      cases h
      exact hf i hi
    have hmem : ∀ r ∈ (List.range n).map f, ∃ i, RowOk W b (off + i * 87) r := fun r h => by
      obtain ⟨i, hi, rfl⟩ := List.mem_map.1 h
      exact ⟨i, hf i (List.mem_range.1 hi)⟩
    refine ⟨⟨false, b, off, n, c⟩, (List.range n).map f, dh, code, rfl, ⟨by simp [Out.len], by rw [List.length_map, List.length_range]; omega, fun _ i r h => (hget i r h).1, fun r h => ?_⟩, fun r h => ?_, has_i64 r0, has_i64 r1, fun r h => ?_, fun r h => ?_⟩
    · obtain ⟨i, _, h, _⟩ := hmem r h; exact h
    · obtain ⟨i, _, _, h, _⟩ := hmem r h; exact h
    · obtain ⟨i, _, _, _, h, _⟩ := hmem r h; exact h
    · obtain ⟨i, _, _, _, _, h⟩ := hmem r h; exact h
end
end Go.Proofs.YtfkdcpinajnbfaaDoor
