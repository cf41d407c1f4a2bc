/- toObsS of no rows; toReport.
   Conditions: none. -/
import Derived.Test.YtfkdcpinajnbfaaDoorObsS
open Go.Ab Go.Num
set_option linter.unusedVariables false
set_option linter.unusedSimpArgs false
namespace Go.Proofs.YtfkdcpinajnbfaaDoor
set_option maxRecDepth 100000
theorem mk17_f : drawOf (itemN c17 1) = false := by kernel_rfl
theorem mk17_r : List.range (opsOf (itemN c17 1)).size = [0, 1] ++ (2 :: ([3] ++ [])) := by kernel_rfl
theorem mk17_o : (opsOf (itemN c17 1))[2]? = some (opAt (itemN c17 1) 2) := by kernel_rfl
theorem mk17_g : (opAt (itemN c17 1) 2).guard = none := by kernel_rfl
theorem mk17_d : (opAt (itemN c17 1) 2).dst = some 7 := by kernel_rfl
theorem mk17_p : (opAt (itemN c17 1) 2).op = .makeSlice 28 (.tmp 6) (.tmp 6) := by kernel_rfl
section
variable (zz : Bool) (M : Mem) (b off c B : Nat) (z : Nat → Value)
theorem q17a : viewU [0] (evL Tryd.prog M (ovX Tryd.prog M) [] [] [] [] 200 [itemN c17 0] ⟨[eA zz b off c] ++ List.replicate (Tryd.f17.ntmps - 1) undef, []⟩ [])
   = some (.normal, [eA zz b off c], [], Tryd.f17.ntmps, []) := by cases zz <;> kernel_rfl
theorem q17z : viewU [2] (evL Tryd.prog M (ovX Tryd.prog M) [] [] [] [] 200 [itemN c17 2, .block 0 (.loop loop17), itemN c17 4, itemN c17 5] ⟨mkT Tryd.f17.ntmps [0, 3] [eA zz b off c, .slice (some ⟨B, 0, none⟩) 0 0] z, []⟩ [])
   = some (.ret, [.slice (some ⟨B, 0, none⟩) 0 0], [], Tryd.f17.ntmps, []) := by cases zz <;> kernel_rfl
theorem q17b (z : Nat → Value) : viewR [0, 6] (rruns Tryd.prog M (fnsC []) (fun l => l) (opsOf (itemN c17 1)) [0, 1] ⟨mkT Tryd.f17.ntmps [0] [eA zz b off c] z, []⟩)
   = some ([eA zz b off c, .int .i64 0], [], Tryd.f17.ntmps) := by cases zz <;> kernel_rfl
theorem q17c (z : Nat → Value) (v : Value) : lookT (aput (mkT Tryd.f17.ntmps [0, 6] [eA zz b off c, .int .i64 0] z) (some 7) v) [0, 7] = [eA zz b off c, v] := by cases zz <;> kernel_rfl
theorem q17d (z : Nat → Value) (v : Value) : viewR [0, 3] (rruns Tryd.prog M (fnsC []) (fun l => l) (opsOf (itemN c17 1)) [3] ⟨mkT Tryd.f17.ntmps [0, 7] [eA zz b off c, v] z, []⟩)
   = some ([eA zz b off c, v], [], Tryd.f17.ntmps) := by cases zz <;> kernel_rfl
end
theorem mkE17 (w : World) : (Instr.makeSlice 28 (.int .i64 0) (.int .i64 0)).run Tryd.prog w = .ok (.slice (some ⟨w.heap.size, 0, none⟩) 0 0) (w.alloc (.cells #[] 45)) := by kernel_rfl

/-- An empty slice's copy: the slice is plain. -/
theorem toObsE {zz : Bool} {M : Mem} {b off c : Nat} : ACallsG Tryd.prog M 17 [eA zz b off c] [] fun v os' ns _ => os' = [] ∧ ns = [] ∧ ∃ B, v = .slice (some ⟨B, 0, none⟩) 0 0 := by
  refine acallsG_of_at Tryd.func17 body17 fun O a w hO hat => ?_
  refine wp_items c17 ?_
  rw [items17]
  show wpL Tryd.prog _ ([itemN c17 0] ++ [itemN c17 1, itemN c17 2, .block 0 (.loop loop17), itemN c17 4, itemN c17 5]) a w
  refine hat.items (ovX_ok _ _) nilC mix (fun c _ => hooksOk_nil c) (q17a zz M b off c) (fun x hx => by cases hx) rfl (fun _ a1 w1 h1 => ?_) fun hne => absurd rfl hne
  show (itemN c17 1).wp Tryd.prog (Exit.then (wpL Tryd.prog _ [itemN c17 2, .block 0 (.loop loop17), itemN c17 4, itemN c17 5]) _) a1 w1
  refine wp_rgn mk17_f mk17_r ?_
  refine h1.ops (K := fnsC []) (cl := fun l => l) (fnsC_sound nilC) (fun z => q17b zz M b off c z) rfl fun a2 w2 h2 => ?_
  have e1 : a2.eval (.tmp 6) = .int .i64 0 := h2.eval (fun z => by kernel_rfl) rfl
  refine wpOps_value mk17_o mk17_g (ex_makeE mk17_p (by rw [e1]; exact mkE17 w2)) ?_
  rw [mk17_d]
  have h3 := (h2.alloc (g' := fun _ _ => False) (.cells #[] 45) (fun b x hx => hx.elim)).put (some 7) (v := .slice (some ⟨w2.heap.size, 0, none⟩) 0 0) rfl (fun z => q17c zz b off c z _)
  refine h3.ops (K := fnsC []) (cl := fun l => l) (fnsC_sound nilC) (fun z => q17d zz M b off c z _) rfl fun a4 w4 h4 => ?_
  show wpL Tryd.prog _ ([itemN c17 2, .block 0 (.loop loop17), itemN c17 4, itemN c17 5] ++ []) a4 w4
  refine h4.items (ovX_ok _ _) nilC mix (fun c _ => hooksOk_nil c) (fun z => q17z zz M b off c _ z) (fun x hx => by cases hx) rfl (fun he => by cases he) fun _ a5 w5 h5 => ?_
  obtain ⟨z, h5⟩ := h5
  exact ⟨.inr rfl, _, _, _, .slice (some ⟨w2.heap.size, 0, none⟩) 0 0, [], [], h5, by kernel_rfl, rfl, rfl, w2.heap.size, rfl⟩

/-! ### toReport -/
/-- The copies' cells. -/
def repG (M : Mem) (R : List Row) (L : List Cp) (q : Cp) : Gho := fun b y => rowsG M R L b y ∨ (0 < R.length ∧ b = q.b ∧ y = .cells (rowsC R L))
/-- A slice of rows. -/
structure RowsIn (M : Mem) (s : Out) (R : List Row) : Prop where
  len : s.len = R.length
  small : R.length ≤ 1048576
  at_ : s.zz = false → RowsAt M s.b s.off R
/-- What is said of the copies. -/
structure CpOk (M : Mem) (R : List Row) (L : List Cp) (q : Cp) : Prop where
  len : L.length = R.length
  caps : capsOk R L
  dist : distOk R L
  apart : ∀ b y, rowsG M R L b y → b ≠ q.b
  cap : R.length ≤ q.c
theorem obsG {M : Mem} {s : Out} {R : List Row} (h : RowsIn M s R) : ACallsG Tryd.prog M 17 [s.sl] [] fun v os' ns g => os' = [] ∧ ns = [] ∧ ∃ (L : List Cp) (q : Cp), CpOk M R L q ∧ v = q.sl R.length ∧ g = repG M R L q := by
  obtain ⟨zz, b, off, n, c⟩ := s
  obtain ⟨hl, hn, hR⟩ := h
  by_cases h0 : R.length = 0
  · have e : (⟨zz, b, off, n, c⟩ : Out).sl = eA zz b off c := by
      cases zz with
      | true => rfl
      | false => rw [h0] at hl; replace hl : n = 0 := hl; subst hl; rfl
    rw [e]
    intro m w args' r hargs
    refine (toObsE (zz := zz) (M := M) (b := b) (off := off) (c := c) m w args' r hargs).mono ?_
    rintro e w' ⟨v, os', ns, g, v', m', ⟨rfl, rfl, B, rfl⟩, h1, h2, h3, h4, h5⟩
    refine ⟨_, [], [], repG M R [] ⟨B, 0⟩, v', m', ⟨rfl, rfl, [], ⟨B, 0⟩, ⟨by simp [h0], fun j r p hj hp => by simp at hp, fun j j' r r' p p' hj hp => by simp at hp, fun b y ⟨j, r, p, _, hp, _⟩ => by simp at hp, by simp [h0]⟩, by rw [h0]; rfl, rfl⟩, h1, h2, h3, h4, fun b x hx => ?_⟩
    rcases hx with ⟨j, r, p, _, hp, _⟩ | ⟨hx, _⟩
    · simp at hp
    · omega
  · cases zz with
    | true => exact absurd hl.symm h0
    | false =>
      replace hl : n = R.length := hl
      subst hl
      refine (obs17 (b := b) (off := off) (c := c) hn (by omega) (hR rfl)).mono ?_
      rintro v os' ns g ⟨rfl, rfl, L, B, C, hL, hcap, hdis, hap, hC, rfl, rfl⟩
      refine ⟨rfl, rfl, L, ⟨B, C⟩, ⟨hL, hcap, hdis, hap, hC⟩, rfl, ?_⟩
      funext b y
      simp only [repG, eq_iff_iff]
      exact ⟨fun h => h.imp id fun ⟨h1, h2⟩ => ⟨by omega, h1, h2⟩, fun h => h.imp id fun ⟨_, h1, h2⟩ => ⟨h1, h2⟩⟩

noncomputable def c6 : Code := Tryd.f6.body.getD .skip
theorem body6 : Tryd.f6.body = some c6 := by kernel_rfl
theorem items6 : items c6 = [itemN c6 0, itemN c6 1, itemN c6 2, itemN c6 3, itemN c6 4, itemN c6 5, itemN c6 6] := by kernel_rfl
theorem r6_f : drawOf (itemN c6 2) = false := by kernel_rfl
theorem r6_r : List.range (opsOf (itemN c6 2)).size = [0, 1] ++ (2 :: ([3, 4] ++ [])) := by kernel_rfl
theorem r6_o : (opsOf (itemN c6 2))[2]? = some (opAt (itemN c6 2) 2) := by kernel_rfl
theorem r6_g : (opAt (itemN c6 2) 2).guard = none := by kernel_rfl
theorem r6_d : (opAt (itemN c6 2) 2).dst = some 6 := by kernel_rfl
theorem r6_p : (opAt (itemN c6 2) 2).op = .call ⟨.value (.func 17), #[.tmp 5], #[22]⟩ := by kernel_rfl
theorem enters17 : Go.Ab.Enters Tryd.prog 17 := ⟨_, Tryd.func17, by kernel_rfl, by kernel_rfl⟩
abbrev p3 (i : Nat) : Value := .pointer (some ⟨i, 0, some 3⟩)
def repL (s : Value) (dh code : Int) : List Value := [s, .int .i64 dh, .int .i64 code]
section
variable (M : Mem) (s : Out) (dh code : Int) (z : Nat → Value) (v : Value) (q : Cp) (n : Nat)
theorem e6a : viewU [1, 2, 3] (evL Tryd.prog M (ovX Tryd.prog M) [] [] [] [] 200 [itemN c6 0, itemN c6 1] ⟨[.agg ⟨repL s.sl dh code⟩] ++ List.replicate (Tryd.f6.ntmps - 1) undef, []⟩ [])
   = some (.normal, [p3 0, p3 1, p3 2], [boxO (repL s.sl dh code), boxO (repL (.slice none 0 0) 0 0), boxO (repL (.slice none 0 0) 0 0)], Tryd.f6.ntmps, []) := by obtain ⟨zz, b, off, n, c⟩ := s; cases zz <;> kernel_rfl
abbrev h6 (s v : Value) (dh code : Int) : AHeap := [boxO (repL s dh code), boxO (repL (.slice none 0 0) 0 0), boxO (repL v 0 0)]
theorem e6b : viewR [1, 2, 3, 5] (rruns Tryd.prog M (fnsC []) (fun l => l) (opsOf (itemN c6 2)) [0, 1] ⟨mkT Tryd.f6.ntmps [1, 2, 3] [p3 0, p3 1, p3 2] z, h6 s.sl (.slice none 0 0) dh code⟩)
   = some ([p3 0, p3 1, p3 2, s.sl], h6 s.sl (.slice none 0 0) dh code, Tryd.f6.ntmps) := by obtain ⟨zz, b, off, n, c⟩ := s; cases zz <;> kernel_rfl
theorem e6c : lookT (aput (mkT Tryd.f6.ntmps [1, 2, 3, 5] [p3 0, p3 1, p3 2, s.sl] z) (some 6) v) [1, 2, 3, 6] = [p3 0, p3 1, p3 2, v] := by kernel_rfl
theorem e6d : viewR [1, 2, 3] (rruns Tryd.prog M (fnsC []) (fun l => l) (opsOf (itemN c6 2)) [3, 4] ⟨mkT Tryd.f6.ntmps [1, 2, 3, 6] [p3 0, p3 1, p3 2, q.sl n] z, h6 s.sl (.slice none 0 0) dh code⟩)
   = some ([p3 0, p3 1, p3 2], h6 s.sl (q.sl n) dh code, Tryd.f6.ntmps) := by obtain ⟨zz, b, off, n, c⟩ := s; cases zz <;> kernel_rfl
theorem e6e : viewU [2] (evL Tryd.prog M (ovX Tryd.prog M) [] [] [] [] 200 [itemN c6 3, itemN c6 4, itemN c6 5, itemN c6 6] ⟨mkT Tryd.f6.ntmps [1, 2, 3] [p3 0, p3 1, p3 2] z, h6 s.sl (q.sl n) dh code⟩ [])
   = some (.ret, [p3 1], [boxO (repL s.sl dh code), boxO (repL (q.sl n) dh code), boxO (repL (q.sl n) dh code)], Tryd.f6.ntmps, []) := by obtain ⟨zz, b, off, n, c⟩ := s; cases zz <;> kernel_rfl
end
theorem slc_gather (s : Out) : renL (idx []) [s.sl] = some [s.sl] := by obtain ⟨zz, b, off, n, c⟩ := s; cases zz <;> rfl
theorem toRepG {M : Mem} {s : Out} {R : List Row} {dh code : Int} (h : RowsIn M s R) : ACallsG Tryd.prog M 6 [.agg ⟨repL s.sl dh code⟩] [] fun v os' ns g => os' = [] ∧ ns = [] ∧ ∃ (L : List Cp) (q : Cp), CpOk M R L q ∧ v = .agg ⟨repL (q.sl R.length) dh code⟩ ∧ g = repG M R L q := by
  refine acallsG_of_at Tryd.func6 body6 fun O a w hO hat => ?_
  refine wp_items c6 ?_
  rw [items6]
  show wpL Tryd.prog _ ([itemN c6 0, itemN c6 1] ++ [itemN c6 2, itemN c6 3, itemN c6 4, itemN c6 5, itemN c6 6]) a w
  refine hat.items (ovX_ok _ _) nilC mix (fun c _ => hooksOk_nil c) (e6a M s dh code) (fun x hx => by cases hx) rfl (fun _ a1 w1 h1 => ?_) fun hne => absurd rfl hne
  show (itemN c6 2).wp Tryd.prog (Exit.then (wpL Tryd.prog _ [itemN c6 3, itemN c6 4, itemN c6 5, itemN c6 6]) _) a1 w1
  refine wp_rgn r6_f r6_r ?_
  refine h1.ops (K := fnsC []) (cl := fun l => l) (fnsC_sound nilC) (fun z => e6b M s dh code z) rfl fun a2 w2 h2 => ?_
  refine h2.callG (L := []) r6_o r6_g r6_p (fun z => by kernel_rfl) enters17 (us := [s.sl]) (fun z => by kernel_rfl) rfl (objs := []) rfl rfl (largs := [s.sl]) (slc_gather s) (R := fun v g => ∃ (L : List Cp) (q : Cp), CpOk M R L q ∧ v = q.sl R.length ∧ g = repG M R L q) (fun v g hR => by obtain ⟨L, q, _, rfl, _⟩ := hR; rfl) (obsG h) rfl (live' := [1, 2, 3, 6]) (V' := fun v => [p3 0, p3 1, p3 2, v]) (fun z v => by rw [r6_d]; exact e6c s z v) fun v g1 w3 hR h3 => ?_
  obtain ⟨L, q, hcp, rfl, rfl⟩ := hR
  refine h3.ops (K := fnsC []) (cl := fun l => l) (fnsC_sound nilC) (fun z => e6d M s dh code z q _) rfl fun a4 w4 h4 => ?_
  show wpL Tryd.prog _ ([itemN c6 3, itemN c6 4, itemN c6 5, itemN c6 6] ++ []) a4 w4
  refine h4.items (ovX_ok _ _) nilC mix (fun c _ => hooksOk_nil c) (fun z => e6e M s dh code z q _) (fun x hx => by cases hx) rfl (fun he => by cases he) fun _ a5 w5 h5 => ?_
  have h6 := h5.weaken (g' := repG M R L q) fun b x hx => .inr hx
  obtain ⟨z, h6⟩ := h6
  exact ⟨.inr rfl, _, _, _, .agg ⟨repL (q.sl R.length) dh code⟩, [], [], h6, by kernel_rfl, rfl, rfl, L, q, hcp, rfl, rfl⟩
end Go.Proofs.YtfkdcpinajnbfaaDoor
