/- Slices of buckets, and limiters, compared.
   Conditions: none. -/
import Derived.Test.YtfkdcpinajnbfaaSmall2
import Derived.Test.YtfkdcpinajnbfaaAbD
open Go.Ab
set_option linter.unusedVariables false
set_option linter.unusedSimpArgs false
namespace Go.Proofs.Ytfkdcpinajnbfaa
set_option maxRecDepth 100000

/-- What is asked where the i-th bucket is loaded. -/
def rowPin (R : List Value) (n : Nat) (i : Int) : Pins := [(inB i n, true), (decide (R.length = n * 11) && (decide (0 + i.toNat * 11 + 11 ≤ n * 11) && shpB R (0 + i.toNat * 11) shBk), true)]
theorem rowPin_held {L : List Bk} {k : Nat} {b : Bk} (h : L[k]? = some b) : Held (rowPin (rowsL L) L.length k) := by
  have hk := (List.getElem?_eq_some_iff.1 h).1
  refine held_cons (by rw [inB_iff]; omega) (held_one ?_)
  have e : (k : Int).toNat = k := Int.toNat_natCast k
  rw [e, shp_rows h, rowsL_length]
  simp; omega
theorem bkAt_row {L : List Bk} {k : Nat} {b : Bk} (h : L[k]? = some b) : bkAt (rowsL L) (0 + (k : Int).toNat * 11) = b := by
  have e : (k : Int).toNat = k := Int.toNat_natCast k
  rw [e]; exact bkAt_rows h

abbrev slJ (j n c : Nat) : Value := .slice (some ⟨j, 0, some (n * 11)⟩) n c
abbrev hEq (R : List Value) (gr : Bool) (es : Nat) (R' : List Value) (gr' : Bool) (es' : Nat) : AHeap := [some ⟨R, gr, es, true⟩, some ⟨R', gr', es', true⟩]
noncomputable def c23 : Code := Try.f23.body.getD .skip
noncomputable def b23 : Code := loopOf 0 c23
theorem body23 : Try.f23.body = some c23 := by kernel_rfl
theorem items23 : items c23 = [itemN c23 0, itemN c23 1, itemN c23 2, itemN c23 3, .block 0 (.loop b23), itemN c23 5, itemN c23 6] := by kernel_rfl

section
variable (M : Mem) (R : List Value) (gr : Bool) (es n c : Nat) (R' : List Value) (gr' : Bool) (es' n' c' : Nat) (z : Nat → Value) (i : Int)
theorem e23h : viewU [0, 1, 5] (evL Try.prog M (ovS shT Try.prog M) [] [] [] [10] 300 [itemN c23 0, itemN c23 1, itemN c23 2, itemN c23 3] ⟨[slJ 0 n c, slJ 1 n' c'] ++ List.replicate (Try.f23.ntmps - 2) undef, hEq R gr es R' gr' es'⟩ [false])
   = some (.normal, [slJ 0 n c, slJ 1 n' c', .int .i64 0], hEq R gr es R' gr' es', Try.f23.ntmps, [((n : Int) != (n' : Int), false)]) := by kernel_rfl
theorem e23n : viewU [4] (evL Try.prog M (ovS shT Try.prog M) [] [] [] [10] 300 [itemN c23 0, itemN c23 1, itemN c23 2, itemN c23 3] ⟨[slJ 0 n c, slJ 1 n' c'] ++ List.replicate (Try.f23.ntmps - 2) undef, hEq R gr es R' gr' es'⟩ [true])
   = some (.ret, [.bool false], hEq R gr es R' gr' es', Try.f23.ntmps, [((n : Int) != (n' : Int), true)]) := by kernel_rfl
theorem e23r (b b' : Bk) (hb : bkAt R (0 + i.toNat * 11) = b) (hb' : bkAt R' (0 + i.toNat * 11) = b') : viewU [0, 1, 5] (evL Try.prog M (ovS shT Try.prog M) [19, 20, 23, 24] [] [eqBSum] [14, 25] 300 (items b23) ⟨mkT Try.f23.ntmps [0, 1, 5] [slJ 0 n c, slJ 1 n' c', .int .i64 i] z, hEq R gr es R' gr' es'⟩ [true, true])
   = some (.normal, [slJ 0 n c, slJ 1 n' c', .int .i64 (IntKind.wrap .i64 (i + 1))], hEq R gr es R' gr' es', Try.f23.ntmps, (decide (i < (n : Int)), true) :: (rowPin R n i ++ rowPin R' n' i ++ [(decide (b = b'), true)])) := by subst hb hb'; kernel_rfl
theorem e23d (b b' : Bk) (hb : bkAt R (0 + i.toNat * 11) = b) (hb' : bkAt R' (0 + i.toNat * 11) = b') : viewU [4] (evL Try.prog M (ovS shT Try.prog M) [19, 20, 23, 24] [] [eqBSum] [14, 25] 300 (items b23) ⟨mkT Try.f23.ntmps [0, 1, 5] [slJ 0 n c, slJ 1 n' c', .int .i64 i] z, hEq R gr es R' gr' es'⟩ [true, false])
   = some (.ret, [.bool false], hEq R gr es R' gr' es', Try.f23.ntmps, (decide (i < (n : Int)), true) :: (rowPin R n i ++ rowPin R' n' i ++ [(decide (b = b'), false)])) := by subst hb hb'; kernel_rfl
theorem e23x : viewU [0, 1, 5] (evL Try.prog M (ovS shT Try.prog M) [] [] [] [14] 300 (items b23) ⟨mkT Try.f23.ntmps [0, 1, 5] [slJ 0 n c, slJ 1 n' c', .int .i64 i] z, hEq R gr es R' gr' es'⟩ [false])
   = some (.exit 0, [slJ 0 n c, slJ 1 n' c', .int .i64 i], hEq R gr es R' gr' es', Try.f23.ntmps, [(decide (i < (n : Int)), false)]) := by kernel_rfl
theorem e23e : viewU [4] (evL Try.prog M (ovS shT Try.prog M) [] [] [] [] 300 [itemN c23 5, itemN c23 6] ⟨mkT Try.f23.ntmps [0, 1, 5] [slJ 0 n c, slJ 1 n' c', .int .i64 i] z, hEq R gr es R' gr' es'⟩ [])
   = some (.ret, [.bool true], hEq R gr es R' gr' es', Try.f23.ntmps, []) := by kernel_rfl
end

theorem first_diffL : ∀ (L L' : List Bk), L.length = L'.length → L = L' ∨ ∃ k, k < L.length ∧ (∀ j, j < k → L[j]? = L'[j]?) ∧ L[k]? ≠ L'[k]? := by
  intro L
  induction L with
  | nil => intro L' h; cases L' with
    | nil => exact .inl rfl
    | cons => simp at h
  | cons b L ih =>
    intro L' h
    cases L' with
    | nil => simp at h
    | cons b' L' =>
      by_cases hb : b = b'
      · subst hb
        rcases ih L' (by simpa using h) with rfl | ⟨k, h1, h2, h3⟩
        · exact .inl rfl
        · refine .inr ⟨k + 1, by simpa using h1, fun j hj => ?_, by simpa using h3⟩
          cases j with
          | zero => rfl
          | succ j => simpa using h2 j (by omega)
      · exact .inr ⟨0, by simp, fun j hj => by omega, by simpa using hb⟩

theorem eqBucketS {M : Mem} {L L' : List Bk} {gr gr' : Bool} {es es' c c' : Nat} (hn : L.length ≤ 4611686018427387904) : ACalls Try.prog M 23 [slJ 0 L.length c, slJ 1 L'.length c'] [⟨rowsL L, gr, es, true⟩, ⟨rowsL L', gr', es', true⟩] (.bool (decide (L = L'))) [⟨rowsL L, gr, es, true⟩, ⟨rowsL L', gr', es', true⟩] [] := by
  have hl : ∀ s ∈ [eqBSum], s.SoundC Try.prog M := consC (eqBs M).c nilC
  refine acalls_of_at Try.func23 body23 rfl fun O a w hO hat => ?_
  refine wp_items c23 ?_
  rw [items23]
  show wpL Try.prog _ ([itemN c23 0, itemN c23 1, itemN c23 2, itemN c23 3] ++ [.block 0 (.loop b23), itemN c23 5, itemN c23 6]) a w
  by_cases hlen : L.length = L'.length
  rotate_left
  · have e1 : decide (L = L') = false := decide_eq_false fun h => hlen (by rw [h])
    rw [e1]
    refine hat.items (ovS_ok shT _ _) nilC mix (fun c _ => hooksOk_nil c) (e23n M (rowsL L) gr es L.length c (rowsL L') gr' es' L'.length c') (held_one (by simp; omega)) rfl (fun he => by cases he) fun _ a1 w1 h1 => ?_
    obtain ⟨z, h1⟩ := h1
    exact ⟨.inr rfl, _, _, _, _, _, _, h1, by kernel_rfl, rfl, rfl, rfl⟩
  refine hat.items (ovS_ok shT _ _) nilC mix (fun c _ => hooksOk_nil c) (e23h M (rowsL L) gr es L.length c (rowsL L') gr' es' L'.length c') (held_one (by simp; omega)) rfl (fun _ a1 w1 h1 => ?_) fun hne => absurd rfl hne
  let I : Nat → Go.Act → World → Prop := fun k a w => AtV M O Try.f23.ntmps [0, 1, 5] [slJ 0 L.length c, slJ 1 L'.length c', .int .i64 k] (hEq (rowsL L) gr es (rowsL L') gr' es') [] (fun _ _ => False) a w
  have hround : ∀ k a w, k < L.length → L[k]? = L'[k]? → I k a w → b23.wp Try.prog (fun e a1 w1 => e = .normal ∧ I (k + 1) a1 w1) a w := fun k a w hk he h => by
    obtain ⟨b, hb⟩ : ∃ b, L[k]? = some b := ⟨_, List.getElem?_eq_getElem hk⟩
    have hb' : L'[k]? = some b := by rw [← he]; exact hb
    refine wp_items b23 (wpL_end ?_)
    have hp : Held ((decide ((k : Int) < (L.length : Int)), true) :: (rowPin (rowsL L) L.length k ++ rowPin (rowsL L') L'.length k ++ [(decide (b = b), true)])) := held_cons (decide_eq_true (by omega)) (held_two (held_two (rowPin_held hb) (rowPin_held hb')) (held_one (by simp)))
    refine h.items (ovS_ok shT _ _) hl mix (fun c _ => hooksOk_nil c) (fun z => e23r M (rowsL L) gr es L.length c (rowsL L') gr' es' L'.length c' z k b b (bkAt_row hb) (bkAt_row hb')) hp rfl (fun _ a2 w2 h2 => ?_) fun hne => absurd rfl hne
    have e1 : IntKind.wrap .i64 ((k : Int) + 1) = ((k + 1 : Nat) : Int) := by rw [Ab.wrap_i64 (by omega) (by omega)]; omega
    rw [e1] at h2
    exact ⟨rfl, h2⟩
  rcases first_diffL L L' hlen with rfl | ⟨k0, hk0, hsame, hdiff⟩
  · have e1 : decide (L = L) = true := by simp
    rw [e1]
    refine wpL_cons (R := I L.length) (wp_block (wp_loop_idx I L.length h1 (fun k a w hk h => hround k a w hk rfl h) fun a w h => ?_)) fun a2 w2 h2 => ?_
    · refine wp_items b23 (wpL_end ?_)
      exact h.items (ovS_ok shT _ _) nilC mix (fun c _ => hooksOk_nil c) (fun z => e23x M (rowsL L) gr es L.length c (rowsL L) gr' es' L.length c' z L.length) (held_one (by simp)) rfl (fun he => by cases he) fun _ a2 w2 h2 => ⟨by simp [AExit.to], rfl, h2⟩
    · show wpL Try.prog _ ([itemN c23 5, itemN c23 6] ++ []) a2 w2
      refine h2.items (ovS_ok shT _ _) nilC mix (fun c _ => hooksOk_nil c) (fun z => e23e M (rowsL L) gr es L.length c (rowsL L) gr' es' L.length c' z L.length) (fun x hx => by cases hx) rfl (fun he => by cases he) fun _ a3 w3 h3 => ?_
      obtain ⟨z, h3⟩ := h3
      exact ⟨.inr rfl, _, _, _, _, _, _, h3, by kernel_rfl, rfl, rfl, rfl⟩
  · have e1 : decide (L = L') = false := decide_eq_false fun h => hdiff (by rw [h])
    rw [e1]
    obtain ⟨b, hb⟩ : ∃ b, L[k0]? = some b := ⟨_, List.getElem?_eq_getElem hk0⟩
    obtain ⟨b', hb'⟩ : ∃ b, L'[k0]? = some b := ⟨_, List.getElem?_eq_getElem (by omega)⟩
    have hne : b ≠ b' := fun h => hdiff (by rw [hb, hb', h])
    refine wp_then (e0 := .ret) (R := fun a2 w2 => AtV M O Try.f23.ntmps [4] [.bool false] (hEq (rowsL L) gr es (rowsL L') gr' es') [] (fun _ _ => False) a2 w2) (wp_block (wp_loop_idx I k0 h1 (fun k a w hk h => hround k a w (by omega) (hsame k hk) h) fun a w h => ?_)) (fun he => by cases he) fun _ a2 w2 h2 => ?_
    · refine wp_items b23 (wpL_end ?_)
      have hp : Held ((decide ((k0 : Int) < (L.length : Int)), true) :: (rowPin (rowsL L) L.length k0 ++ rowPin (rowsL L') L'.length k0 ++ [(decide (b = b'), false)])) := held_cons (decide_eq_true (by omega)) (held_two (held_two (rowPin_held hb) (rowPin_held hb')) (held_one (decide_eq_false hne)))
      exact h.items (ovS_ok shT _ _) hl mix (fun c _ => hooksOk_nil c) (fun z => e23d M (rowsL L) gr es L.length c (rowsL L') gr' es' L'.length c' z k0 b b' (bkAt_row hb) (bkAt_row hb')) hp rfl (fun he => by cases he) fun _ a2 w2 h2 => ⟨by simp [AExit.to], rfl, h2⟩
    · obtain ⟨z, h2⟩ := h2
      exact ⟨.inr rfl, _, _, _, _, _, _, h2, by kernel_rfl, rfl, rfl, rfl⟩
end Go.Proofs.Ytfkdcpinajnbfaa
