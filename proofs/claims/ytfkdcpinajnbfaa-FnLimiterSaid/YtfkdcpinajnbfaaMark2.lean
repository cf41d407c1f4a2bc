/- Slices of buckets marked, and looked at for the marks: contracts.
   Conditions: numbers that stay small. -/
import Derived.Test.YtfkdcpinajnbfaaMark
open Go.Ab
set_option linter.unusedVariables false
set_option linter.unusedSimpArgs false
namespace Go.Proofs.Ytfkdcpinajnbfaa
set_option maxRecDepth 100000

theorem wr_app {P X : List Value} {off j : Nat} {v : Value} (h : P.length = off) : wr (P ++ X) (off + j) [v] = P ++ X.set j v := by
  simp only [wr]
  rw [List.set_append, if_neg (by omega), show off + j - P.length = j by omega]

theorem rows_split {L : List Bk} {k : Nat} {b : Bk} (h : L[k]? = some b) : rowsL L = rowsL (L.take k) ++ (bc b ++ rowsL (L.drop (k + 1))) := by
  have hk := (List.getElem?_eq_some_iff.1 h).1
  have hd : L.drop k = b :: L.drop (k + 1) := by
    rw [List.drop_eq_getElem_cons hk]
    have := List.getElem?_eq_getElem hk
    rw [h] at this
    rw [← Option.some.inj this]
  calc rowsL L = rowsL (L.take k ++ L.drop k) := by rw [List.take_append_drop]
    _ = _ := by rw [hd]; simp [rowsL]

theorem wrB_rows {L : List Bk} {k : Nat} {b b' : Bk} (h : L[k]? = some b) : wrB (rowsL L) (0 + k * 11) b' = rowsL (L.set k b') := by
  have hk := (List.getElem?_eq_some_iff.1 h).1
  have hset : (L.set k b')[k]? = some b' := by simp [hk]
  rw [rows_split h, rows_split hset]
  have e1 : (L.set k b').take k = L.take k := by
    rw [List.take_set]
    exact List.set_eq_of_length_le (by simp; omega)
  have e2 : (L.set k b').drop (k + 1) = L.drop (k + 1) := by
    rw [List.drop_set, if_pos (by omega)]
  rw [e1, e2]
  have hl : (rowsL (L.take k)).length = 0 + k * 11 := by rw [rowsL_length]; simp; omega
  generalize rowsL (L.drop (k + 1)) = Z
  generalize rowsL (L.take k) = P at hl
  generalize 0 + k * 11 = off at hl
  unfold wrB
  rw [wr_app hl, wr_app hl, wr_app hl, wr_app hl, wr_app hl, wr_app hl, wr_app hl, wr_app hl, wr_app hl, wr_app hl, wr_app hl]
  rfl

theorem wrPin_held {L : List Bk} {gr : Bool} {es k : Nat} {b b' : Bk} (h : L[k]? = some b) : Held (wrPin (rowsL L) gr es L.length k (0 + k * 11) b') := by
  have hk := (List.getElem?_eq_some_iff.1 h).1
  have hi : inB (k : Int) L.length = true := by rw [inB_iff]; omega
  have hs : ∀ (X : List Value) (o : Nat), X.length = L.length * 11 → o + 1 ≤ L.length * 11 → stB ⟨X, gr, es, true⟩ (L.length * 11) o 1 = true := fun X o h1 h2 => by simp [stB, h1, h2]
  have hl := rowsL_length L
  unfold wrPin
  refine held_cons hi (held_cons rfl (held_cons (hs _ _ ?_ ?_) (held_cons hi (held_cons rfl (held_cons (hs _ _ ?_ ?_) (held_cons hi (held_cons rfl (held_cons (hs _ _ ?_ ?_) (held_cons hi (held_cons rfl (held_cons (hs _ _ ?_ ?_) (held_cons hi (held_cons rfl (held_cons (hs _ _ ?_ ?_) (held_cons hi (held_cons rfl (held_cons (hs _ _ ?_ ?_) (held_cons hi (held_cons rfl (held_cons (hs _ _ ?_ ?_) (held_cons hi (held_cons rfl (held_cons (hs _ _ ?_ ?_) (held_cons hi (held_cons rfl (held_cons (hs _ _ ?_ ?_) (held_cons hi (held_cons (hs _ _ ?_ ?_) (held_cons hi (held_one (hs _ _ ?_ ?_)))))))))))))))))))))))))))))))
  all_goals first
    | (simp only [wr_length]; exact hl)
    | omega

theorem cnt64_small {k : Int} : ∀ {j : Nat}, 0 ≤ k → k + j ≤ 9223372036854775807 → cnt64 k j = k + j := by
  intro j
  induction j with
  | zero => intro _ _; simp [cnt64]
  | succ j ih =>
    intro h0 h1
    rw [cnt64, ih h0 (by omega), Ab.wrap_i64 (by omega) (by omega)]
    omega
theorem kAt_small {k : Int} : ∀ {n : Nat}, 0 ≤ k → k + 11 * n ≤ 9223372036854775807 → kAt k n = k + 11 * n := by
  intro n
  induction n with
  | zero => intro _ _; simp [kAt]
  | succ n ih =>
    intro h0 h1
    rw [kAt, ih h0 (by omega), cnt64_small (by omega) (by omega)]
    omega

/-- Behind i rounds of marking. -/
def mkL (k : Int) (L : List Bk) (i : Nat) : List Bk := markLs k i ++ L.drop i
theorem markLs_length (k : Int) (n : Nat) : (markLs k n).length = n := by simp [markLs]
theorem mkL_length {k : Int} {L : List Bk} {i : Nat} (h : i ≤ L.length) : (mkL k L i).length = L.length := by simp [mkL, markLs_length]; omega
theorem mkL_at {k : Int} {L : List Bk} {i : Nat} {b : Bk} (h : L[i]? = some b) : (mkL k L i)[i]? = some b := by
  unfold mkL
  rw [List.getElem?_append_right (by rw [markLs_length]; exact Nat.le_refl _), markLs_length, Nat.sub_self]
  simpa using h
theorem mkL_set {k : Int} {L : List Bk} {i : Nat} (h : i < L.length) : (mkL k L i).set i (markB (kAt k i)) = mkL k L (i + 1) := by
  unfold mkL
  rw [List.set_append, if_neg (by rw [markLs_length]; omega), markLs_length, Nat.sub_self, List.drop_eq_getElem_cons h, List.set_cons_zero]
  simp [markLs, List.range_succ]
theorem mkL_end (k : Int) (L : List Bk) : mkL k L L.length = markLs k L.length := by simp [mkL]
theorem markLs_at {k : Int} {n i : Nat} (h : i < n) : (markLs k n)[i]? = some (markB (kAt k i)) := by simp [markLs, h]

theorem wrap_next {i n : Nat} (h : i < n) (hn : n ≤ 4611686018427387904) : IntKind.wrap .i64 ((i : Int) + 1) = ((i + 1 : Nat) : Int) := by rw [Ab.wrap_i64 (by omega) (by omega)]; omega

theorem markBucketS {M : Mem} {L : List Bk} {gr : Bool} {es c : Nat} {k : Int} (hn : L.length ≤ 4611686018427387904) : ACalls Try.prog M 24 [slJ 0 L.length c, .int .i64 k] [⟨rowsL L, gr, es, true⟩] (.int .i64 (kAt k L.length)) [⟨rowsL (markLs k L.length), gr, es, true⟩] [] := by
  refine acalls_of_at Try.func24 body24 rfl fun O a w hO hat => ?_
  refine wp_items c24 ?_
  rw [items24]
  show wpL Try.prog _ ([itemN c24 0, itemN c24 1] ++ [.block 0 (.loop b24), itemN c24 3, itemN c24 4]) a w
  refine hat.items (ovS_ok shT _ _) nilC mix (fun c _ => hooksOk_nil c) (m24h M (rowsL L) gr es L.length c k) (fun x hx => by cases hx) rfl (fun _ a1 w1 h1 => ?_) fun hne => absurd rfl hne
  let I : Nat → Go.Act → World → Prop := fun i a w => AtV M O Try.f24.ntmps [0, 1, 5] [slJ 0 L.length c, .int .i64 (kAt k i), .int .i64 i] (hOne (rowsL (mkL k L i)) gr es) [] (fun _ _ => False) a w
  refine wpL_cons (R := I L.length) (wp_block (wp_loop_idx I L.length h1 (fun i a w hi h => ?_) fun a w h => ?_)) fun a2 w2 h2 => ?_
  · obtain ⟨b, hb⟩ : ∃ b, L[i]? = some b := ⟨_, List.getElem?_eq_getElem hi⟩
    have hbm := mkL_at (k := k) hb
    have hlen := mkL_length (k := k) (L := L) (i := i) (by omega)
    have e0 : (i : Int).toNat = i := Int.toNat_natCast i
    have hev := fun z => m24r M (rowsL (mkL k L i)) gr es L.length c z i (kAt k i)
    rw [e0] at hev
    have hp := wrPin_held (gr := gr) (es := es) (b' := markB (kAt k i)) hbm
    rw [hlen] at hp
    refine wp_items b24 (wpL_end ?_)
    refine h.items (ovT_ok shT _ _ _) nilC mix (fun c _ => hooksOk_nil c) hev (held_cons (decide_eq_true (by omega)) hp) rfl (fun _ a2 w2 h2 => ?_) fun hne => absurd rfl hne
    rw [wrB_rows hbm, mkL_set hi, wrap_next hi hn] at h2
    exact ⟨rfl, h2⟩
  · refine wp_items b24 (wpL_end ?_)
    exact h.items (ovS_ok shT _ _) nilC mix (fun c _ => hooksOk_nil c) (fun z => m24x M (rowsL (mkL k L L.length)) gr es L.length c z L.length (kAt k L.length)) (held_one (by simp)) rfl (fun he => by cases he) fun _ a2 w2 h2 => ⟨by simp [AExit.to], rfl, h2⟩
  · show wpL Try.prog _ ([itemN c24 3, itemN c24 4] ++ []) a2 w2
    refine h2.items (ovS_ok shT _ _) nilC mix (fun c _ => hooksOk_nil c) (fun z => m24e M (rowsL (mkL k L L.length)) gr es L.length c z L.length (kAt k L.length)) (fun x hx => by cases hx) rfl (fun he => by cases he) fun _ a3 w3 h3 => ?_
    rw [mkL_end] at h3
    obtain ⟨z, h3⟩ := h3
    exact ⟨.inr rfl, _, _, _, _, _, _, h3, by kernel_rfl, rfl, rfl, rfl⟩

theorem ldPin_held {k : Int} {n i : Nat} {gr : Bool} {es : Nat} (hi : i < n) : Held (ldPin (rowsL (markLs k n)) gr es n i (kAt k i)) := by
  have hb := markLs_at (k := k) hi
  have hib : inB (i : Int) n = true := by rw [inB_iff]; omega
  have e0 : (i : Int).toNat = i := Int.toNat_natCast i
  have hl : (rowsL (markLs k n)).length = n * 11 := by rw [rowsL_length, markLs_length]
  have hat : ∀ j, j < 11 → atC (rowsL (markLs k n)) (0 + i * 11 + j) = atC (bc (markB (kAt k i))) j := fun j hj => rows_at hb j hj
  have hld : ∀ (kd : IntKind) (j : Nat), j < 11 → isI kd (atC (bc (markB (kAt k i))) j) = true → ldB kd ⟨rowsL (markLs k n), gr, es, true⟩ (n * 11) (0 + i * 11 + j) = true := fun kd j hj h => by
    simp only [ldB, hl, decide_true, Bool.true_and]
    rw [hat j hj]; exact h
  have hv : ∀ (j : Nat) (x : Int), j < 11 → vint (atC (bc (markB (kAt k i))) j) = x → (vint (atC (rowsL (markLs k n)) (0 + i * 11 + j)) != x) = false := fun j x hj h => by
    rw [hat j hj, h]; simp
  unfold ldPin
  rw [e0]
  simp only [Nat.mul_one]
  exact held_cons (decide_eq_true (by omega)) (held_cons hib (held_cons rfl (held_cons (hld _ _ (by decide) rfl) (held_cons (hv _ _ (by decide) rfl)
    (held_cons hib (held_cons rfl (held_cons (hld _ _ (by decide) rfl) (held_cons (hv _ _ (by decide) rfl)
    (held_cons hib (held_cons rfl (held_cons (hld _ _ (by decide) rfl) (held_cons (hv _ _ (by decide) rfl)
    (held_cons hib (held_cons rfl (held_cons (hld _ _ (by decide) rfl) (held_cons (hv _ _ (by decide) rfl)
    (held_cons hib (held_cons rfl (held_cons (hld _ _ (by decide) rfl) (held_cons (hv _ _ (by decide) rfl)
    (held_cons hib (held_cons rfl (held_cons (hld _ _ (by decide) rfl) (held_cons (hv _ _ (by decide) rfl)
    (held_cons hib (held_cons rfl (held_cons (hld _ _ (by decide) rfl) (held_cons (hv _ _ (by decide) rfl)
    (held_cons hib (held_cons rfl (held_cons (hld _ _ (by decide) rfl) (held_cons (hv _ _ (by decide) rfl)
    (held_cons hib (held_cons rfl (held_cons (hld _ _ (by decide) rfl) (held_cons (hv _ _ (by decide) rfl)
    (held_cons hib (held_cons (hld _ _ (by decide) rfl) (held_cons (hv _ _ (by decide) rfl)
    (held_cons hib (held_cons (hld _ _ (by decide) rfl) (held_one (hv _ _ (by decide) rfl)))))))))))))))))))))))))))))))))))))))))))

theorem heldBucketS {M : Mem} {n : Nat} {gr : Bool} {es c : Nat} {k : Int} (hn : n ≤ 4611686018427387904) : ACalls Try.prog M 25 [slJ 0 n c, .int .i64 k] [⟨rowsL (markLs k n), gr, es, true⟩] (.int .i64 (kAt k n)) [⟨rowsL (markLs k n), gr, es, true⟩] [] := by
  refine acalls_of_at Try.func25 body25 rfl fun O a w hO hat => ?_
  refine wp_items c25 ?_
  rw [items25]
  show wpL Try.prog _ ([itemN c25 0, itemN c25 1] ++ [.block 0 (.loop b25), itemN c25 3, itemN c25 4]) a w
  refine hat.items (ovS_ok shT _ _) nilC mix (fun c _ => hooksOk_nil c) (d25h M (rowsL (markLs k n)) gr es n c k) (fun x hx => by cases hx) rfl (fun _ a1 w1 h1 => ?_) fun hne => absurd rfl hne
  let I : Nat → Go.Act → World → Prop := fun i a w => AtV M O Try.f25.ntmps [0, 1, 5] [slJ 0 n c, .int .i64 (kAt k i), .int .i64 i] (hOne (rowsL (markLs k n)) gr es) [] (fun _ _ => False) a w
  refine wpL_cons (R := I n) (wp_block (wp_loop_idx I n h1 (fun i a w hi h => ?_) fun a w h => ?_)) fun a2 w2 h2 => ?_
  · refine wp_items b25 (wpL_end ?_)
    refine h.items (ovT_ok shT _ _ _) nilC mix (fun c _ => hooksOk_nil c) (fun z => d25r M (rowsL (markLs k n)) gr es n c z i (kAt k i)) (ldPin_held hi) rfl (fun _ a2 w2 h2 => ?_) fun hne => absurd rfl hne
    rw [wrap_next hi hn] at h2
    exact ⟨rfl, h2⟩
  · refine wp_items b25 (wpL_end ?_)
    exact h.items (ovS_ok shT _ _) nilC mix (fun c _ => hooksOk_nil c) (fun z => d25x M (rowsL (markLs k n)) gr es n c z n (kAt k n)) (held_one (by simp)) rfl (fun he => by cases he) fun _ a2 w2 h2 => ⟨by simp [AExit.to], rfl, h2⟩
  · show wpL Try.prog _ ([itemN c25 3, itemN c25 4] ++ []) a2 w2
    refine h2.items (ovS_ok shT _ _) nilC mix (fun c _ => hooksOk_nil c) (fun z => d25e M (rowsL (markLs k n)) gr es n c z n (kAt k n)) (fun x hx => by cases hx) rfl (fun he => by cases he) fun _ a3 w3 h3 => ?_
    obtain ⟨z, h3⟩ := h3
    exact ⟨.inr rfl, _, _, _, _, _, _, h3, by kernel_rfl, rfl, rfl, rfl⟩
end Go.Proofs.Ytfkdcpinajnbfaa
