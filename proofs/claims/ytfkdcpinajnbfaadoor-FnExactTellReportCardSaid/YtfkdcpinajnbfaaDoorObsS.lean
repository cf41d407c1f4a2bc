/- toObsS: a report's rows copied; the rows' bytes lie in known cells.
   Conditions: the rows lie in memory. -/
import Derived.Test.YtfkdcpinajnbfaaDoorObG
import Derived.Test.YtfkdcpinajnbfaaDoorOdd
import Derived.Test.YtfkdcpinajnbfaaDoorAbD
open Go.Ab Go.Num
set_option linter.unusedVariables false
set_option linter.unusedSimpArgs false
namespace Go.Proofs.YtfkdcpinajnbfaaDoor
set_option maxRecDepth 100000
noncomputable def c17 : Code := Tryd.f17.body.getD .skip
theorem body17 : Tryd.f17.body = some c17 := by kernel_rfl
noncomputable def loop17 : Code := loopOf 0 c17
def inner : Code → Code
  | .block _ c => c
  | c => c
noncomputable def r17 : Code := inner (itemN loop17 2)
theorem items17 : items c17 = [itemN c17 0, itemN c17 1, itemN c17 2, .block 0 (.loop loop17), itemN c17 4, itemN c17 5] := by kernel_rfl
theorem itemsL17 : items loop17 = [itemN loop17 0, itemN loop17 1, .block 1 r17, itemN loop17 3] := by kernel_rfl
theorem r17_f : drawOf r17 = false := by kernel_rfl
theorem r17_r : List.range (opsOf r17).size = [0, 1, 2, 3, 4, 5] ++ (6 :: ([7, 8] ++ [])) := by kernel_rfl
theorem r17_o : (opsOf r17)[6]? = some (opAt r17 6) := by kernel_rfl
theorem r17_g : (opAt r17 6).guard = none := by kernel_rfl
theorem r17_o5 : (opsOf r17)[5]? = some (opAt r17 5) := by kernel_rfl
theorem r17_g5 : (opAt r17 5).guard = none := by kernel_rfl
theorem r17_d5 : (opAt r17 5).dst = some 19 := by kernel_rfl
theorem r17_p5 : (opAt r17 5).op = .load 58 (.tmp 18) := by kernel_rfl
theorem info58 : (Tryd.prog.info? 58).map (·.size) = some 87 := by kernel_rfl
theorem r17_d : (opAt r17 6).dst = some 20 := by kernel_rfl
theorem r17_p : (opAt r17 6).op = .call ⟨.value (.func 25), #[.tmp 19], #[58]⟩ := by kernel_rfl
theorem enters25 : Go.Ab.Enters Tryd.prog 25 := ⟨_, Tryd.func25, by kernel_rfl, by kernel_rfl⟩

abbrev Row := Ob × Out
def Row.cells (r : Row) : List Value := obC r.1 r.2.sl
def rowC (r : Row) (p : Cp) : List Value := obC r.1 (p.sl r.2.len)
def rowsC : List Row → List Cp → List Value
  | r :: rs, p :: ps => rowC r p ++ rowsC rs ps
  | _, _ => []
def zrow : List Value := obC zeroOb (.slice none 0 0)
def obsO (l : List Value) (f : Bool) : AObj := ⟨l, true, 87, f⟩
abbrev sl0 (n : Nat) : Value := .slice (some ⟨0, 0, some (n * 87)⟩) n n
abbrev arg17 (b off n c : Nat) : Value := .slice (some ⟨b, off, none⟩) n c
theorem obC_length (o : Ob) (s : Value) : (obC o s).length = 87 := by simp [obC, srcCells, cellsI_length]
theorem obC_length' (o : Ob) (s s' : Value) : (obC o s).length = (obC o s').length := by rw [obC_length, obC_length]
section
variable (M : Mem) (b off n c : Nat) (k : Int) (z : Nat → Value) (X : List Value) (o : Ob) (s v : Value) (B m C D : Nat) (f : Bool)
theorem e17a : viewU [0, 3, 4] (evL Tryd.prog M (ovX Tryd.prog M) [7] [] [] [] 200 [itemN c17 0, itemN c17 1, itemN c17 2] ⟨[arg17 b off n c] ++ List.replicate (Tryd.f17.ntmps - 1) undef, []⟩ [])
   = some (.normal, [arg17 b off n c, sl0 n, .int .i64 0], [some (obsO (zcells zrow n) false)], Tryd.f17.ntmps, [(mkB 136 n n, true)]) := by kernel_rfl
theorem e17s : viewU [0, 3, 4] (evL Tryd.prog M (ovX Tryd.prog M) [] [] [] [11] 200 [itemN loop17 0, itemN loop17 1] ⟨mkT Tryd.f17.ntmps [0, 3, 4] [arg17 b off n c, sl0 m, .int .i64 k] z, [some (obsO X f)]⟩ [true])
   = some (.normal, [arg17 b off n c, sl0 m, .int .i64 k], [some (obsO X f)], Tryd.f17.ntmps, [(decide (k < (n : Int)), true)]) := by kernel_rfl
theorem e17x : viewU [3] (evL Tryd.prog M (ovX Tryd.prog M) [] [] [] [11] 200 (items loop17) ⟨mkT Tryd.f17.ntmps [0, 3, 4] [arg17 b off n c, sl0 m, .int .i64 k] z, [some (obsO X f)]⟩ [false])
   = some (.exit 0, [sl0 m], [some (obsO X f)], Tryd.f17.ntmps, [(decide (k < (n : Int)), false)]) := by kernel_rfl
theorem e17r : viewW [0, 3, 4, 14, 15, 19] (rtraceU Tryd.prog M (ovG 58 (obC o s) (fun _ => none) Tryd.prog M) [18, 19] [] [] (fun l => l) (opsOf r17) [0, 1, 2, 3, 4, 5] ⟨mkT Tryd.f17.ntmps [0, 3, 4] [arg17 b off n c, sl0 m, .int .i64 k] z, [some (obsO X f)]⟩ [])
   = some ([arg17 b off n c, sl0 m, .int .i64 k, sl0 m, .int .i64 k, .agg ⟨obC o s⟩], [some (obsO X f)], Tryd.f17.ntmps, [(inB k n, true), (rowB M b (off + k.toNat * 87) (obC o s), true)]) := by kernel_rfl
theorem e17q : viewW [0, 3, 4, 14, 15, 18] (rtraceU Tryd.prog M (ovX Tryd.prog M) [18] [] [] (fun l => l) (opsOf r17) [0, 1, 2, 3, 4] ⟨mkT Tryd.f17.ntmps [0, 3, 4] [arg17 b off n c, sl0 m, .int .i64 k] z, [some (obsO X f)]⟩ [])
   = some ([arg17 b off n c, sl0 m, .int .i64 k, sl0 m, .int .i64 k, .pointer (some ⟨b, off + k.toNat * 87, none⟩)], [some (obsO X f)], Tryd.f17.ntmps, [(inB k n, true)]) := by kernel_rfl
theorem e17p : lookT (aput (mkT Tryd.f17.ntmps [0, 3, 4, 14, 15, 18] [arg17 b off n c, sl0 m, .int .i64 k, sl0 m, .int .i64 k, s] z) (some 19) v) [0, 3, 4, 14, 15, 19] = [arg17 b off n c, sl0 m, .int .i64 k, sl0 m, .int .i64 k, v] := by kernel_rfl
theorem e17v : lookT (aput (mkT Tryd.f17.ntmps [0, 3, 4, 14, 15, 19] [arg17 b off n c, sl0 m, .int .i64 k, sl0 m, .int .i64 k, .agg ⟨obC o s⟩] z) (some 20) v) [0, 3, 4, 14, 15, 20] = [arg17 b off n c, sl0 m, .int .i64 k, sl0 m, .int .i64 k, v] := by kernel_rfl
theorem e17t : viewW [0, 3, 4] (rtraceU Tryd.prog M (ovX Tryd.prog M) [21] [] [] (fun l => l) (opsOf r17) [7, 8] ⟨mkT Tryd.f17.ntmps [0, 3, 4, 14, 15, 20] [arg17 b off n c, sl0 m, .int .i64 k, sl0 m, .int .i64 k, .agg ⟨obC o (.slice (some ⟨B, 0, none⟩) C D)⟩] z, [some (obsO X true)]⟩ [])
   = some ([arg17 b off n c, sl0 m, .int .i64 k], [some (obsO (wr X (0 + k.toNat * 87) (obC o (.slice (some ⟨B, 0, none⟩) C D))) true)], Tryd.f17.ntmps, [(inB k m, true), (stB (obsO X true) (m * 87) (0 + k.toNat * 87) 87, true)]) := by kernel_rfl
theorem e17i : viewU [0, 3, 4] (evL Tryd.prog M (ovX Tryd.prog M) [] [] [] [] 200 [itemN loop17 3] ⟨mkT Tryd.f17.ntmps [0, 3, 4] [arg17 b off n c, sl0 m, .int .i64 k] z, [some (obsO X f)]⟩ [])
   = some (.normal, [arg17 b off n c, sl0 m, .int .i64 (IntKind.wrap .i64 (k + 1))], [some (obsO X f)], Tryd.f17.ntmps, []) := by kernel_rfl
theorem e17e : viewU [2] (evL Tryd.prog M (ovX Tryd.prog M) [] [] [] [] 200 [itemN c17 4, itemN c17 5] ⟨mkT Tryd.f17.ntmps [3] [sl0 m] z, [some (obsO X f)]⟩ [])
   = some (.ret, [sl0 m], [some (obsO X f)], Tryd.f17.ntmps, []) := by kernel_rfl
end

theorem obC_flat (o : Ob) (n : Nat) (p : Cp) : groundL (obC o (p.sl n)) = true := by
  rw [obC_split, groundL_append, (obC_ground o).1, groundL_append, (obC_ground o).2]; rfl
theorem rowsC_length : ∀ {rs : List Row} {ps : List Cp}, rs.length = ps.length → (rowsC rs ps).length = rs.length * 87 := by
  intro rs
  induction rs with
  | nil => intro ps _; cases ps <;> rfl
  | cons r rs ih => intro ps h; cases ps with
    | nil => cases h
    | cons p ps =>
      have := ih (ps := ps) (by simpa using h)
      simp only [rowsC, List.length_append, rowC, obC_length, this, List.length_cons]; omega
theorem rowsC_snoc : ∀ {rs : List Row} {ps : List Cp} (r : Row) (p : Cp), rs.length = ps.length → rowsC (rs ++ [r]) (ps ++ [p]) = rowsC rs ps ++ rowC r p := by
  intro rs
  induction rs with
  | nil => intro ps r p h; cases ps with
    | nil => simp [rowsC]
    | cons => cases h
  | cons r0 rs ih => intro ps r p h; cases ps with
    | nil => cases h
    | cons p0 ps => simp only [List.cons_append, rowsC, ih r p (ps := ps) (by simpa using h), List.append_assoc]
theorem rowsC_flat : ∀ {rs : List Row} {ps : List Cp}, groundL (rowsC rs ps) = true := by
  intro rs
  induction rs with
  | nil => intro ps; cases ps <;> rfl
  | cons r rs ih => intro ps; cases ps with
    | nil => rfl
    | cons p ps => rw [rowsC, groundL_append, ih, rowC, obC_flat]; rfl
theorem rowsC_get : ∀ {rs : List Row} {ps : List Cp} {i j : Nat} {r : Row} {p : Cp}, rs[i]? = some r → ps[i]? = some p → j < 87 → (rowsC rs ps)[i * 87 + j]? = (rowC r p)[j]? := by
  intro rs
  induction rs with
  | nil => intro ps i j r p h; simp at h
  | cons r0 rs ih => intro ps i j r p h1 h2 hj; cases ps with
    | nil => simp at h2
    | cons p0 ps =>
      have hl : (rowC r0 p0).length = 87 := obC_length _ _
      cases i with
      | zero =>
        simp only [List.getElem?_cons_zero, Option.some.injEq] at h1 h2
        subst h1 h2
        simp only [rowsC, Nat.zero_mul, Nat.zero_add]
        rw [List.getElem?_append_left (by omega)]
      | succ i =>
        simp only [List.getElem?_cons_succ] at h1 h2
        simp only [rowsC]
        rw [List.getElem?_append_right (by omega), hl, show (i + 1) * 87 + j - 87 = i * 87 + j by omega]
        exact ih h1 h2 hj
theorem wr_mid : ∀ (U A P Z : List Value), A.length = U.length → wr (P ++ (A ++ Z)) P.length U = P ++ (U ++ Z) := by
  intro U A P Z h
  have hl : (P ++ (A ++ Z)).length = P.length + (A.length + Z.length) := by simp
  apply List.ext_getElem?
  intro j
  rw [wr_get]
  split
  · rename_i hc
    rw [List.getElem?_append_right hc.1, List.getElem?_append_left (by omega)]
  · rename_i hc
    by_cases h1 : j < P.length
    · rw [List.getElem?_append_left h1, List.getElem?_append_left h1]
    · rw [List.getElem?_append_right (by omega), List.getElem?_append_right (by omega)]
      by_cases h2 : j - P.length < A.length
      · exact absurd ⟨by omega, by omega, by omega⟩ hc
      · rw [List.getElem?_append_right (by omega), List.getElem?_append_right (by omega), h]

/-- An observation with an empty slice of an unknown place, in a block that is known whole. -/
def OddAt (M : Mem) (b off : Nat) (o : Ob) : Prop := ∃ cs t fz a, M.big b = some (.cells cs t fz) ∧ ∀ (j : Nat) v, (obC o (.slice (some a) 0 0))[j]? = some v → cs[off + j]? = some v
/-- The rows lie in memory. -/
def RowsAt (M : Mem) (b off : Nat) (R : List Row) : Prop := ∀ i r, R[i]? = some r → (RowAt M b (off + i * 87) r.cells ∧ r.2.ok M) ∨ (r.2.zz = true ∧ OddAt M b (off + i * 87) r.1)
theorem OddAt.cells {M : Mem} {b off : Nat} {o : Ob} (h : OddAt M b off o) : ∃ a : Addr, ∀ {m : Pl} {H : AHeap} {w : World}, HRel M m H w → w.rangeAt b off (obC o (.slice (some a) 0 0)) := by
  obtain ⟨cs, t, fz, a, hb, hc⟩ := h
  refine ⟨a, fun {m H w} r j v hv => ?_⟩
  have := (r.big b _ hb).1
  simp only [World.cell?, this, Option.isSome_none, Bool.false_eq_true, if_false]
  exact hc j v hv
theorem vrel_odd {m : Pl} {H : AHeap} {o : Ob} {a : Addr} {x : AObj} (h0 : hget H 0 = some x) : VRel m H (.agg ⟨obC o (oA x.cells.length)⟩) (.agg (obC o (.slice (some a) 0 0)).toArray) := by
  refine .agg (show (obC o (oA x.cells.length)).length = ((obC o (.slice (some a) 0 0)).toArray).size by rw [List.size_toArray]; exact obC_length' _ _ _) fun i u v hu hv => ?_
  have hu' : (obC o (oA x.cells.length))[i]? = some u := by rw [← Array.getElem?_toList] at hu; exact hu
  have hv' : (obC o (.slice (some a) 0 0))[i]? = some v := by simpa using hv
  by_cases hi : i = 21
  · subst hi
    have e1 : (obC o (oA x.cells.length))[21]? = some (oA x.cells.length) := rfl
    have e2 : (obC o (.slice (some a) 0 0))[21]? = some (.slice (some a) 0 0) := rfl
    rw [e1] at hu'; rw [e2] at hv'
    cases hu'; cases hv'
    exact .slc h0 (Nat.le_refl _) ⟨Nat.le_refl _, Nat.le_refl _⟩ fun _ => ⟨fun h => absurd rfl h, fun _ => rfl, fun _ => by omega⟩
  · have key : u = v ∧ ground u = true := by
      rw [obC_split] at hu' hv'
      obtain ⟨g1, g2⟩ := obC_ground o
      by_cases h1 : i < 21
      · rw [List.getElem?_append_left (by simpa [srcCells, cellsI_length] using h1)] at hu' hv'
        rw [hu'] at hv'; cases hv'
        exact ⟨rfl, groundL_get g1 hu'⟩
      · rw [List.getElem?_append_right (by simp [srcCells, cellsI_length]; omega)] at hu' hv'
        have e : ([Value.int .i64 o.vd, .int .i64 o.dh, .bool o.ld] ++ srcCells o.v6 o.addr o.port).length = 21 := by simp [srcCells, cellsI_length]
        rw [e] at hu' hv'
        obtain ⟨j, hj⟩ : ∃ j, i - 21 = j + 1 := ⟨i - 22, by omega⟩
        rw [hj] at hu' hv'
        simp only [List.cons_append, List.nil_append, List.getElem?_cons_succ] at hu' hv'
        rw [hu'] at hv'; cases hv'
        exact ⟨rfl, groundL_get g2 hu'⟩
    obtain ⟨rfl, hg⟩ := key
    exact .same hg
/-- The rows' copies: known cells. -/
def rowsG (M : Mem) (R : List Row) (L : List Cp) : Gho := fun b y => ∃ (j : Nat) (r : Row) (p : Cp), R[j]? = some r ∧ L[j]? = some p ∧ cpG r.2.len (r.2.byte M) p b y
def capsOk (R : List Row) (L : List Cp) : Prop := ∀ (j : Nat) (r : Row) (p : Cp), R[j]? = some r → L[j]? = some p → r.2.len ≤ p.c
theorem rowsG_snoc {M : Mem} {R : List Row} {L : List Cp} {r : Row} {p : Cp} (hl : R.length = L.length) {b : Nat} {y : GO} (h : rowsG M (R ++ [r]) (L ++ [p]) b y) : rowsG M R L b y ∨ cpG r.2.len (r.2.byte M) p b y := by
  obtain ⟨j, r1, p1, h1, h2, h3⟩ := h
  by_cases hj : j < R.length
  · rw [List.getElem?_append_left hj] at h1
    rw [List.getElem?_append_left (by omega)] at h2
    exact .inl ⟨j, r1, p1, h1, h2, h3⟩
  · rw [List.getElem?_append_right (by omega)] at h1
    rw [List.getElem?_append_right (by omega)] at h2
    have e : j - R.length = 0 := by have := (List.getElem?_eq_some_iff.1 h1).1; simp at this; omega
    rw [e] at h1
    rw [show j - L.length = 0 by omega] at h2
    simp only [List.getElem?_cons_zero, Option.some.injEq] at h1 h2
    subst h1 h2
    exact .inr h3
theorem capsOk_snoc {R : List Row} {L : List Cp} {r : Row} {p : Cp} (hl : R.length = L.length) (h : capsOk R L) (hp : r.2.len ≤ p.c) : capsOk (R ++ [r]) (L ++ [p]) := by
  intro j r1 p1 h1 h2
  by_cases hj : j < R.length
  · rw [List.getElem?_append_left hj] at h1
    rw [List.getElem?_append_left (by omega)] at h2
    exact h j r1 p1 h1 h2
  · rw [List.getElem?_append_right (by omega)] at h1
    rw [List.getElem?_append_right (by omega)] at h2
    have e : j - R.length = 0 := by have := (List.getElem?_eq_some_iff.1 h1).1; simp at this; omega
    rw [e] at h1
    rw [show j - L.length = 0 by omega] at h2
    simp only [List.getElem?_cons_zero, Option.some.injEq] at h1 h2
    subst h1 h2
    exact hp

/-- The copies' blocks are apart from one another. -/
def distOk (R : List Row) (L : List Cp) : Prop := ∀ (i j : Nat) (r r' : Row) (p p' : Cp), R[i]? = some r → L[i]? = some p → R[j]? = some r' → L[j]? = some p' → 0 < r.2.len → 0 < r'.2.len → i ≠ j → p.b ≠ p'.b
theorem distOk_snoc {R : List Row} {L : List Cp} {r : Row} {p : Cp} (hl : R.length = L.length) (h : distOk R L) (hp : 0 < r.2.len → ∀ (j : Nat) (r' : Row) (p' : Cp), R[j]? = some r' → L[j]? = some p' → 0 < r'.2.len → p'.b ≠ p.b) : distOk (R ++ [r]) (L ++ [p]) := by
  have key : ∀ (j : Nat) (r' : Row) (p' : Cp), (R ++ [r])[j]? = some r' → (L ++ [p])[j]? = some p' → (j < R.length ∧ R[j]? = some r' ∧ L[j]? = some p') ∨ (j = R.length ∧ r' = r ∧ p' = p) := fun j r' p' h1 h2 => by
    by_cases hj : j < R.length
    · rw [List.getElem?_append_left hj] at h1
      rw [List.getElem?_append_left (by omega)] at h2
      exact .inl ⟨hj, h1, h2⟩
    · rw [List.getElem?_append_right (by omega)] at h1
      rw [List.getElem?_append_right (by omega)] at h2
      have e : j - R.length = 0 := by have := (List.getElem?_eq_some_iff.1 h1).1; simp at this; omega
      rw [e] at h1
      rw [show j - L.length = 0 by omega] at h2
      simp only [List.getElem?_cons_zero, Option.some.injEq] at h1 h2
      exact .inr ⟨by omega, h1.symm, h2.symm⟩
  intro i j r1 r2 p1 p2 a1 a2 b1 b2 h1 h2 hne
  rcases key i r1 p1 a1 a2 with ⟨_, c1, c2⟩ | ⟨e1, rfl, rfl⟩ <;> rcases key j r2 p2 b1 b2 with ⟨_, d1, d2⟩ | ⟨e2, rfl, rfl⟩
  · exact h i j r1 r2 p1 p2 c1 c2 d1 d2 h1 h2 hne
  · exact hp h2 i r1 p1 c1 c2 h1
  · exact (hp h1 j r2 p2 d1 d2 h2).symm
  · omega
def I17 (M : Mem) (O : Org) (b off c : Nat) (R : List Row) (i : Nat) (a : Go.Act) (w : World) : Prop :=
  ∃ L : List Cp, L.length = i ∧ capsOk (R.take i) L ∧ distOk (R.take i) L ∧ AtV M O Tryd.f17.ntmps [0, 3, 4] [arg17 b off R.length c, sl0 R.length, .int .i64 i] [some (obsO (rowsC (R.take i) L ++ zcells zrow (R.length - i)) true)] [] (rowsG M (R.take i) L) a w

theorem nextC {i n : Nat} (h : i < n) (hn : n ≤ 1048576) : IntKind.wrap .i64 ((i : Int) + 1) = ((i + 1 : Nat) : Int) := by
  rw [Ab.wrap_i64 (by omega) (by omega)]; omega
theorem renl17 (o : Ob) (s : Out) : renL (idx []) [.agg ⟨obC o s.sl⟩] = some [.agg ⟨obC o s.sl⟩] := by
  obtain ⟨zz, b, off, n, c⟩ := s
  cases zz <;> kernel_rfl
theorem zcells_flat : ∀ n, groundL (zcells zrow n) = true := by
  intro n
  induction n with
  | zero => rfl
  | succ n ih =>
    rw [zcells, groundL_append, ih, zrow]
    have : groundL (obC zeroOb (.slice none 0 0)) = true := by rw [obC_split, groundL_append, (obC_ground zeroOb).1, groundL_append, (obC_ground zeroOb).2]; rfl
    rw [this]; rfl
theorem zrow_length : zrow.length = 87 := obC_length _ _
theorem rows_wr {R : List Row} {L : List Cp} {r : Row} {p : Cp} {m : Nat} (h : R.length = L.length) : wr (rowsC R L ++ zcells zrow (m + 1)) (0 + L.length * 87) (rowC r p) = rowsC (R ++ [r]) (L ++ [p]) ++ zcells zrow m := by
  have e : 0 + L.length * 87 = (rowsC R L).length := by rw [rowsC_length h, h]; omega
  rw [e, rowsC_snoc r p h, List.append_assoc]
  exact wr_mid _ _ _ _ ((obC_length _ _).trans (obC_length _ _).symm)

theorem round17 {M : Mem} {O : Org} {b off c : Nat} {R : List Row} (hn : R.length ≤ 1048576) (hR : RowsAt M b off R) {i : Nat} (hi : i < R.length) {a : Go.Act} {w : World} (h : I17 M O b off c R i a w) :
    loop17.wp Tryd.prog (fun e a' w' => e = .normal ∧ I17 M O b off c R (i + 1) a' w') a w := by
  obtain ⟨L, hL, hcap, hdis, h⟩ := h
  obtain ⟨r, hr⟩ : ∃ r, R[i]? = some r := ⟨_, List.getElem?_eq_getElem hi⟩
  have htk : (R.take i).length = L.length := by rw [List.length_take]; omega
  have hsn : R.take (i + 1) = R.take i ++ [r] := by rw [List.take_add_one, hr]; rfl
  have hst : stB (obsO (rowsC (R.take i) L ++ zcells zrow (R.length - i)) true) (R.length * 87) (0 + (i : Int).toNat * 87) 87 = true := by
    have e1 := rowsC_length htk
    simp only [stB, obsO, List.length_append, e1, zcells_length, zrow_length, List.length_take, Int.toNat_natCast, Bool.and_eq_true, decide_eq_true_eq]
    omega
  refine wp_items loop17 ?_
  rw [itemsL17]
  show wpL Tryd.prog _ ([itemN loop17 0, itemN loop17 1] ++ [.block 1 r17, itemN loop17 3]) a w
  refine h.items (ovX_ok _ _) nilC mix (fun c _ => hooksOk_nil c) (fun z => e17s M b off R.length c i z _ R.length true) (held_one (decide_eq_true (by omega))) rfl (fun _ a1 w1 h1 => ?_) fun hne => absurd rfl hne
  refine wpL_cons (R := fun a' w' => ∃ p : Cp, r.2.len ≤ p.c ∧ (0 < r.2.len → ∀ (j : Nat) (r' : Row) (p' : Cp), (R.take i)[j]? = some r' → L[j]? = some p' → 0 < r'.2.len → p'.b ≠ p.b) ∧ AtV M O Tryd.f17.ntmps [0, 3, 4] [arg17 b off R.length c, sl0 R.length, .int .i64 i] [some (obsO (wr (rowsC (R.take i) L ++ zcells zrow (R.length - i)) (0 + (i : Int).toNat * 87) (rowC r p)) true)] [] (fun b y => rowsG M (R.take i) L b y ∨ cpG r.2.len (r.2.byte M) p b y) a' w') (wp_block ?_) fun a2 w2 ⟨p, hp, hfr, h2⟩ => ?_
  · refine wp_rgn r17_f r17_r ?_
    rcases hR i r hr with ⟨hrow, hok⟩ | ⟨hz, hodd⟩
    · refine h1.opsU (ovG_ok 58 _ _ _ _) nilC (fun z => e17r M b off R.length c i z _ r.1 r.2.sl R.length true) (held_cons (by simp [inB]; omega) (held_one (rowB_iff.2 (by rw [Int.toNat_natCast]; exact hrow)))) rfl fun a3 w3 h3 => ?_
      refine h3.callGf (L := []) r17_o r17_g r17_p (fun z => by kernel_rfl) enters25 (us := [.agg ⟨obC r.1 r.2.sl⟩]) (fun z => by kernel_rfl) rfl (objs := []) rfl rfl (largs := [.agg ⟨obC r.1 r.2.sl⟩]) (renl17 r.1 r.2) (R := fun v g => ∃ p : Cp, v = .agg ⟨obC r.1 (p.sl r.2.len)⟩ ∧ r.2.len ≤ p.c ∧ g = cpG r.2.len (r.2.byte M) p) (fun v g hR => by obtain ⟨p, rfl, _⟩ := hR; show groundL _ = true; exact obC_flat _ _ _) ((toObG hok).mono fun v o n g h => h) rfl (live' := [0, 3, 4, 14, 15, 20]) (V' := fun v => [arg17 b off R.length c, sl0 R.length, .int .i64 i, sl0 R.length, .int .i64 i, v]) (fun z v => by rw [r17_d]; exact e17v b off R.length c i z r.1 r.2.sl v R.length) fun v g1 w4 hRv hfr h4 => ?_
      obtain ⟨p, rfl, hpc, rfl⟩ := hRv
      refine h4.opsU (ovX_ok _ _) nilC (fun z => e17t M b off R.length c i z _ r.1 p.b R.length r.2.len p.c) (held_cons (by simp [inB]; omega) (held_one hst)) rfl fun a5 w5 h5 => ?_
      exact ⟨rfl, p, hpc, fun h0 j r' p' hj1 hj2 h0' he => by
        have k1 := hfr p.b _ ⟨h0, rfl, rfl⟩
        have k2 := h3.lt (b := p'.b) (x := .cells (cellsI .u8 r'.2.len (r'.2.byte M))) ⟨j, r', p', hj1, hj2, h0', rfl, rfl⟩
        omega, h5⟩
    · have hlen0 : r.2.len = 0 := by unfold Out.len; rw [hz]; rfl
      obtain ⟨a0, hrange⟩ := hodd.cells
      show wpOps Tryd.prog _ _ ([0, 1, 2, 3, 4] ++ (5 :: (6 :: ([7, 8] ++ [])))) _ _
      refine h1.opsU (ovX_ok _ _) nilC (fun z => e17q M b off R.length c i z _ R.length true) (held_one (by simp [inB]; omega)) rfl fun a3 w3 h3 => ?_
      have hXl : (obsO (rowsC (R.take i) L ++ zcells zrow (R.length - i)) true).cells.length = R.length * 87 := by
        simp only [stB, Bool.and_eq_true, decide_eq_true_eq] at hst
        exact hst.1
      refine h3.loadBy r17_o5 r17_g5 r17_p5 (b := b) (off := off + (i : Int).toNat * 87) (fun z => by kernel_rfl) (rs := obC r.1 (.slice (some a0) 0 0)) (us := obC r.1 (oA (R.length * 87))) Tryd.underlying58 rfl (by rw [obC_length]; exact info58) (fun m hr => by rw [Int.toNat_natCast]; exact hrange hr) (fun m hr => by
        have := vrel_odd (m := m) (H := [some (obsO (rowsC (R.take i) L ++ zcells zrow (R.length - i)) true)]) (o := r.1) (a := a0) (x := obsO (rowsC (R.take i) L ++ zcells zrow (R.length - i)) true) rfl
        rw [hXl] at this
        exact this) (live' := [0, 3, 4, 14, 15, 19]) (V' := [arg17 b off R.length c, sl0 R.length, .int .i64 i, sl0 R.length, .int .i64 i, .agg ⟨obC r.1 (oA (R.length * 87))⟩]) (fun z => by rw [r17_d5]; exact e17p b off R.length c i z _ _ R.length) fun a4 h4 => ?_
      refine h4.callGf (L := [0]) r17_o r17_g r17_p (fun z => by kernel_rfl) enters25 (us := [.agg ⟨obC r.1 (oA (R.length * 87))⟩]) (fun z => by kernel_rfl) rfl (objs := [obsO (rowsC (R.take i) L ++ zcells zrow (R.length - i)) true]) (lo := [obsO (rowsC (R.take i) L ++ zcells zrow (R.length - i)) true]) rfl (by kernel_rfl) (largs := [.agg ⟨obC r.1 (oA (R.length * 87))⟩]) (by kernel_rfl) (R := fun v g => ∃ B, v = .agg ⟨obC r.1 (.slice (some ⟨B, 0, none⟩) 0 0)⟩) (fun v g hR => by obtain ⟨B, rfl⟩ := hR; show groundL _ = true; exact obC_flat r.1 0 ⟨B, 0⟩) toObW rfl (live' := [0, 3, 4, 14, 15, 20]) (V' := fun v => [arg17 b off R.length c, sl0 R.length, .int .i64 i, sl0 R.length, .int .i64 i, v]) (fun z v => by rw [r17_d]; exact e17v b off R.length c i z r.1 _ v R.length) fun v g1 w5 hRv hfr h5 => ?_
      obtain ⟨B, rfl⟩ := hRv
      refine h5.opsU (ovX_ok _ _) nilC (fun z => e17t M b off R.length c i z _ r.1 B R.length 0 0) (held_cons (by simp [inB]; omega) (held_one hst)) rfl fun a6 w6 h6 => ?_
      refine ⟨rfl, ⟨B, 0⟩, by rw [hlen0]; exact Nat.le_refl _, fun h0 => by omega, ?_⟩
      have e : rowC r ⟨B, 0⟩ = obC r.1 (.slice (some ⟨B, 0, none⟩) 0 0) := by unfold rowC; rw [hlen0]; rfl
      rw [e]
      exact h6.weaken fun b y hy => .inl (hy.resolve_right fun h => by have := h.1; omega)
  · have hz : R.length - i = (R.length - (i + 1)) + 1 := by omega
    rw [hz, Int.toNat_natCast] at h2
    conv at h2 => rw [show i * 87 = L.length * 87 by rw [hL]]
    rw [rows_wr htk, ← hsn] at h2
    show wpL Tryd.prog _ ([itemN loop17 3] ++ []) a2 w2
    refine h2.items (ovX_ok _ _) nilC mix (fun c _ => hooksOk_nil c) (fun z => e17i M b off R.length c i z _ R.length true) (fun x hx => by cases hx) rfl (fun _ a6 w6 h6 => ?_) fun hne => absurd rfl hne
    rw [nextC hi hn] at h6
    refine ⟨rfl, L ++ [p], by simp [hL], ?_, ?_, ?_⟩
    · rw [hsn]; exact capsOk_snoc htk hcap hp
    · rw [hsn]; exact distOk_snoc htk hdis hfr
    · exact h6.weaken fun b y hy => by rw [hsn] at hy; exact rowsG_snoc htk hy

theorem last17 {M : Mem} {O : Org} {b off c : Nat} {R : List Row} (hn : R.length ≤ 1048576) {a : Go.Act} {w : World} (h : I17 M O b off c R R.length a w) :
    loop17.wp Tryd.prog (fun e a' w' => e ≠ .normal ∧ (e = .exit 0 ∧ ∃ L : List Cp, L.length = R.length ∧ capsOk R L ∧ distOk R L ∧ AtV M O Tryd.f17.ntmps [3] [sl0 R.length] [some (obsO (rowsC R L) true)] [] (rowsG M R L) a' w')) a w := by
  obtain ⟨L, hL, hcap, hdis, h⟩ := h
  rw [List.take_length] at hcap hdis h
  refine wp_items loop17 (wpL_end ?_)
  refine h.items (ovX_ok _ _) nilC mix (fun c _ => hooksOk_nil c) (fun z => e17x M b off R.length c _ z _ R.length true) (held_one (decide_eq_false (by omega))) rfl (fun he => by cases he) fun _ a2 w2 h2 => ?_
  refine ⟨by simp [AExit.to], rfl, L, hL, hcap, hdis, ?_⟩
  rw [Nat.sub_self] at h2
  simpa [zcells] using h2

theorem obs17 {M : Mem} {b off c : Nat} {R : List Row} (hn : R.length ≤ 1048576) (h0 : 0 < R.length) (hR : RowsAt M b off R) : ACallsG Tryd.prog M 17 [arg17 b off R.length c] [] fun v os' ns g => os' = [] ∧ ns = [] ∧ ∃ (L : List Cp) (B C : Nat), L.length = R.length ∧ capsOk R L ∧ distOk R L ∧ (∀ b y, rowsG M R L b y → b ≠ B) ∧ R.length ≤ C ∧ v = .slice (some ⟨B, 0, none⟩) R.length C ∧ g = fun b y => rowsG M R L b y ∨ (b = B ∧ y = .cells (rowsC R L)) := by
  have h1 : ACallsG Tryd.prog M 17 [arg17 b off R.length c] [] fun v os' ns g => ∃ l, l.length = R.length * 87 ∧ v = .slice (some ⟨0, 0, some (R.length * 87)⟩) R.length R.length ∧ ns = [⟨l, true, 87, true⟩] ∧ ∃ L : List Cp, L.length = R.length ∧ (capsOk R L ∧ distOk R L) ∧ l = rowsC R L ∧ g = rowsG M R L := by
    refine acallsG_of_at Tryd.func17 body17 fun O a w hO hat => ?_
    refine wp_items c17 ?_
    rw [items17]
    show wpL Tryd.prog _ ([itemN c17 0, itemN c17 1, itemN c17 2] ++ [.block 0 (.loop loop17), itemN c17 4, itemN c17 5]) a w
    refine hat.items (ovX_ok _ _) nilC mix (fun c _ => hooksOk_nil c) (e17a M b off R.length c) (held_one (by simp [mkB]; omega)) rfl (fun _ a1 w1 h1 => ?_) fun hne => absurd rfl hne
    have h1 := h1.flatten (i := 0) rfl (by rw [hO]; rfl) (show groundL (zcells zrow R.length) = true from zcells_flat R.length)
    refine wpL_cons (R := fun a' w' => ∃ L : List Cp, L.length = R.length ∧ (capsOk R L ∧ distOk R L) ∧ AtV M O Tryd.f17.ntmps [3] [sl0 R.length] [some (obsO (rowsC R L) true)] [] (rowsG M R L) a' w') (wp_block (wp_loop_idx (I17 M O b off c R) R.length ⟨[], rfl, fun j r p h => by simp at h, fun j j' r r' p p' h => by simp at h, ?_⟩ (fun i a w hi h => round17 hn hR hi h) fun a w h => ?_)) fun a2 w2 ⟨L, hL, hcap, h2⟩ => ?_
    · exact h1.weaken fun b y ⟨j, r, p, h3, _⟩ => by simp at h3
    · refine wp_mono (last17 hn h) ?_
      rintro e a' w' ⟨hne, rfl, L, hL, hcap, hdis, h3⟩
      exact ⟨hne, rfl, L, hL, ⟨hcap, hdis⟩, h3⟩
    · show wpL Tryd.prog _ ([itemN c17 4, itemN c17 5] ++ []) a2 w2
      refine h2.items (ovX_ok _ _) nilC mix (fun c _ => hooksOk_nil c) (fun z => e17e M z _ R.length true) (fun x hx => by cases hx) rfl (fun he => by cases he) fun _ a3 w3 h3 => ?_
      obtain ⟨z, h4⟩ := h3
      exact ⟨.inr rfl, _, _, _, .slice (some ⟨0, 0, some (R.length * 87)⟩) R.length R.length, [], [⟨rowsC R L, true, 87, true⟩], h4, by kernel_rfl, rowsC R L, by rw [rowsC_length hL.symm], rfl, rfl, L, hL, hcap, rfl, rfl⟩
  refine (h1.shutS (R := fun l g => ∃ L : List Cp, L.length = R.length ∧ (capsOk R L ∧ distOk R L) ∧ l = rowsC R L ∧ g = rowsG M R L) h0).mono ?_
  rintro v os' ns g ⟨rfl, rfl, l, B, C, g0, hl, ⟨L, hL, ⟨hcap, hdis⟩, rfl, rfl⟩, hc, rfl, _, hap, rfl⟩
  exact ⟨rfl, rfl, L, B, C, hL, hcap, hdis, hap, hc, rfl, rfl⟩
end Go.Proofs.YtfkdcpinajnbfaaDoor
