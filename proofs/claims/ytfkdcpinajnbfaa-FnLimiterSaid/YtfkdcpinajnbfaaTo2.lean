/- Limiters copied out of the arguments' memory, and measured: contracts.
   Conditions: the memory reads as buckets. -/
import Derived.Test.YtfkdcpinajnbfaaTo
open Go.Ab
set_option linter.unusedVariables false
set_option linter.unusedSimpArgs false
namespace Go.Proofs.Ytfkdcpinajnbfaa
set_option maxRecDepth 100000

theorem wr_mid : ∀ (U A P Z : List Value), A.length = U.length → wr (P ++ (A ++ Z)) P.length U = P ++ (U ++ Z) := by
  intro U
  induction U with
  | nil => intro A P Z h; cases A with
    | nil => rfl
    | cons => simp at h
  | cons u U ih =>
    intro A P Z h
    cases A with
    | nil => simp at h
    | cons x A =>
      have h2 := ih A (P ++ [u]) Z (by simpa using h)
      simp only [wr]
      rw [List.set_append, if_neg (Nat.lt_irrefl _), Nat.sub_self]
      simp only [List.cons_append, List.set_cons_zero]
      simp only [List.length_append, List.length_cons, List.length_nil, List.append_assoc, List.cons_append, List.nil_append] at h2
      exact h2

theorem wr_rows {L : List Bk} {k : Nat} {b' : Bk} (h : k < L.length) : wr (rowsL L) (0 + k * 11) (bc b') = rowsL (L.set k b') := by
  obtain ⟨b, hb⟩ : ∃ b, L[k]? = some b := ⟨_, List.getElem?_eq_getElem h⟩
  have hset : (L.set k b')[k]? = some b' := by simp [h]
  have e1 : (L.set k b').take k = L.take k := by
    rw [List.take_set]
    exact List.set_eq_of_length_le (by simp; omega)
  have e2 : (L.set k b').drop (k + 1) = L.drop (k + 1) := by
    rw [List.drop_set, if_pos (by omega)]
  rw [rows_split hb, rows_split hset, e1, e2]
  have hl : (rowsL (L.take k)).length = 0 + k * 11 := by rw [rowsL_length]; simp; omega
  rw [← hl]
  exact wr_mid (bc b') (bc b) _ _ rfl

theorem zrows (n : Nat) : zcells (bc zBk) n = rowsL (List.replicate n zBk) := by
  induction n with
  | zero => rfl
  | succ n ih => rw [zcells, ih, List.replicate_succ]; rfl

theorem lstM_length (M : Mem) (b off n : Nat) : (lstM M b off n).length = n := by simp [lstM]
/-- Behind i rounds of copying. -/
def cpL (L : List Bk) (i : Nat) : List Bk := L.take i ++ List.replicate (L.length - i) zBk
theorem cpL_length {L : List Bk} {i : Nat} (h : i ≤ L.length) : (cpL L i).length = L.length := by simp [cpL]; omega
theorem cpL_set {L : List Bk} {i : Nat} {b : Bk} (h : L[i]? = some b) : (cpL L i).set i b = cpL L (i + 1) := by
  have hi := (List.getElem?_eq_some_iff.1 h).1
  have e0 : L.length - i = (L.length - (i + 1)) + 1 := by omega
  unfold cpL
  rw [List.set_append, if_neg (by simp; omega), List.take_add_one, h, e0, List.replicate_succ]
  have : i - (L.take i).length = 0 := by simp; omega
  rw [this, List.set_cons_zero]
  simp
theorem cpL_end (L : List Bk) : cpL L L.length = L := by simp [cpL]
theorem cpL_zero (L : List Bk) : cpL L 0 = List.replicate L.length zBk := by simp [cpL]

theorem toBucketS {M : Mem} {b off n c : Nat} (hn : n ≤ 1048576) (hM : rowsM M b off n = true) : ACalls Try.prog M 18 [slM b off n c] [] (slJ 0 n n) [] [⟨rowsL (lstM M b off n), true, 11, true⟩] := by
  have hl : ∀ s ∈ [toBSum], s.SoundC Try.prog M := consC (toB M).c nilC
  have hL := lstM_length M b off n
  refine acalls_of_at Try.func18 body18 rfl fun O a w hO hat => ?_
  refine wp_items c18 ?_
  rw [items18]
  show wpL Try.prog _ ([itemN c18 0, itemN c18 1, itemN c18 2] ++ [.block 0 (.loop b18), itemN c18 4, itemN c18 5]) a w
  refine hat.items (ovT_ok shT shTM _ _) nilC mix (fun c _ => hooksOk_nil c) (t18h M b off n c) (held_one (by simp [mkB]; omega)) rfl (fun _ a1 w1 h1 => ?_) fun hne => absurd rfl hne
  have e2 : (n : Int).toNat = n := Int.toNat_natCast n
  let I : Nat → Go.Act → World → Prop := fun i a w => AtV M O Try.f18.ntmps [0, 3, 4] [slM b off n c, slJ 0 n n, .int .i64 i] [some ⟨rowsL (cpL (lstM M b off n) i), true, 11, true⟩] [] (fun _ _ => False) a w
  have h2 : I 0 a1 w1 := by
    show AtV M O Try.f18.ntmps [0, 3, 4] [slM b off n c, slJ 0 n n, .int .i64 0] [some ⟨rowsL (cpL (lstM M b off n) 0), true, 11, true⟩] [] (fun _ _ => False) a1 w1
    rw [e2, zrows] at h1
    rw [cpL_zero, hL]
    exact h1
  refine wpL_cons (R := I n) (wp_block (wp_loop_idx I n h2 (fun i a w hi h => ?_) fun a w h => ?_)) fun a2 w2 h3 => ?_
  · have e0 : (i : Int).toNat = i := Int.toNat_natCast i
    have hrow : shpMB M b (off + i * 11) shBk = true := List.all_eq_true.1 hM i (List.mem_range.2 hi)
    have hget : (lstM M b off n)[i]? = some (bkM M b (off + i * 11)) := by simp [lstM, hi]
    have hib : inB (i : Int) n = true := by rw [inB_iff]; omega
    have hlc : (rowsL (cpL (lstM M b off n) i)).length = n * 11 := by rw [rowsL_length, cpL_length (by omega), hL]
    have hev := fun z => t18r M b off n c (rowsL (cpL (lstM M b off n) i)) z i
    rw [e0] at hev
    refine wp_items b18 (wpL_end ?_)
    refine h.items (ovT_ok shT shTM _ _) hl mix (fun c _ => hooksOk_nil c) hev (held_cons (decide_eq_true (by omega)) (held_cons hib (held_cons hrow (held_cons hib (held_one (by simp [stB, hlc]; omega)))))) rfl (fun _ a2 w2 h2 => ?_) fun hne => absurd rfl hne
    rw [wr_rows (by rw [cpL_length (by omega), hL]; exact hi), cpL_set hget, wrap_next hi (by omega)] at h2
    exact ⟨rfl, h2⟩
  · refine wp_items b18 (wpL_end ?_)
    exact h.items (ovT_ok shT shTM _ _) nilC mix (fun c _ => hooksOk_nil c) (fun z => t18x M b off n c _ z n) (held_one (by simp)) rfl (fun he => by cases he) fun _ a2 w2 h2 => ⟨by simp [AExit.to], rfl, h2⟩
  · show wpL Try.prog _ ([itemN c18 4, itemN c18 5] ++ []) a2 w2
    refine h3.items (ovT_ok shT shTM _ _) nilC mix (fun c _ => hooksOk_nil c) (fun z => t18e M b off n c _ z n) (fun x hx => by cases hx) rfl (fun he => by cases he) fun _ a3 w3 h4 => ?_
    have e3 : cpL (lstM M b off n) n = lstM M b off n := by
      have := cpL_end (lstM M b off n)
      rwa [hL] at this
    rw [e3] at h4
    obtain ⟨z, h4⟩ := h4
    exact ⟨.inr rfl, _, _, _, _, _, _, h4, by kernel_rfl, rfl, rfl, rfl⟩

theorem toBucketZ {M : Mem} : ACalls Try.prog M 18 [.slice none 0 0] [] (slJ 0 0 0) [] [⟨rowsL [], true, 11, true⟩] := by
  refine acalls_of_at Try.func18 body18 rfl fun O a w hO hat => ?_
  refine wp_items c18 (wpL_end ?_)
  refine hat.items (ovT_ok shT shTM _ _) nilC mix (fun c _ => hooksOk_nil c) (t18z M) (fun x hx => by cases hx) rfl (fun he => by cases he) fun _ a1 w1 h1 => ?_
  obtain ⟨z, h1⟩ := h1
  exact ⟨.inr rfl, _, _, _, _, _, _, h1, by kernel_rfl, rfl, rfl, rfl⟩

/-! ### As known functions -/
def toBSSum (M : Mem) : Sum :=
  { f := 18, ro := true
    S := fun args os => match args, os with
      | [.slice (some ⟨b, off, none⟩) n c], [] => some (slJ 0 n n, [], [⟨rowsL (lstM M b off n), true, 11, true⟩])
      | [.slice none 0 0], [] => some (slJ 0 0 0, [], [⟨rowsL [], true, 11, true⟩])
      | _, _ => none
    C := fun args os => match args with
      | [.slice (some ⟨b, off, none⟩) n c] => [(decide (n ≤ 1048576), true), (rowsM M b off n, true)]
      | _ => [] }
theorem toBSs (M : Mem) : (toBSSum M).SoundC Try.prog M := by
  refine sumC_sound Try.func18 (by kernel_rfl) (by kernel_rfl) fun args os v os' ns hs hp => ?_
  simp only [toBSSum] at hs hp
  split at hs
  · cases hs
    have h1 := hp _ (List.Mem.head _)
    have h2 := hp _ (List.Mem.tail _ (List.Mem.head _))
    simp only [decide_eq_true_eq] at h1 h2
    exact ⟨toBucketS h1 h2, fun _ => rfl⟩
  · cases hs
    exact ⟨toBucketZ, fun _ => rfl⟩
  · cases hs

/-- The copied limiter. -/
def toLSum (M : Mem) : Sum :=
  { f := 7, ro := true
    S := fun args os => match args, os with
      | [.agg ⟨[.int .i64 most, .int .i64 sw, .slice (some ⟨b, off, none⟩) n c]⟩], [] => some (.agg ⟨[.int .i64 most, .int .i64 sw, slJ 0 n n]⟩, [], [⟨rowsL (lstM M b off n), true, 11, true⟩])
      | [.agg ⟨[.int .i64 most, .int .i64 sw, .slice none 0 0]⟩], [] => some (.agg ⟨[.int .i64 most, .int .i64 sw, slJ 0 0 0]⟩, [], [⟨rowsL [], true, 11, true⟩])
      | _, _ => none
    C := fun args os => match args with
      | [.agg ⟨[.int .i64 most, .int .i64 sw, .slice (some ⟨b, off, none⟩) n c]⟩] => [(decide (n ≤ 1048576), true), (rowsM M b off n, true)]
      | _ => [] }
theorem t7s (M : Mem) (most sw : Int) (b off n c : Nat) : evFU Try.prog M (ovS shT Try.prog M) [] [] [toBSSum M] [] 300 Try.f7 [.agg ⟨[.int .i64 most, .int .i64 sw, slM b off n c]⟩] [] [] = some ((.agg ⟨[.int .i64 most, .int .i64 sw, slJ 0 n n]⟩, [], [⟨rowsL (lstM M b off n), true, 11, true⟩]), [(decide (n ≤ 1048576), true), (rowsM M b off n, true)]) := by kernel_rfl
theorem t7z (M : Mem) (most sw : Int) : evFU Try.prog M (ovS shT Try.prog M) [] [] [toBSSum M] [] 300 Try.f7 [.agg ⟨[.int .i64 most, .int .i64 sw, .slice none 0 0]⟩] [] [] = some ((.agg ⟨[.int .i64 most, .int .i64 sw, slJ 0 0 0]⟩, [], [⟨rowsL [], true, 11, true⟩]), []) := by kernel_rfl
theorem toLs (M : Mem) : (toLSum M).SoundC Try.prog M := by
  refine sumC_sound Try.func7 (by kernel_rfl) (by kernel_rfl) fun args os v os' ns hs hp => ?_
  simp only [toLSum] at hs hp
  split at hs
  · cases hs
    exact ⟨acalls_of_evFU (ovS_ok shT _ _) (consC (toBSs M) nilC) mix Try.func7 (hooksOk_nil _) (t7s M _ _ _ _ _ _) hp, fun _ => rfl⟩
  · cases hs
    exact ⟨acalls_of_evFU (ovS_ok shT _ _) (consC (toBSs M) nilC) mix Try.func7 (hooksOk_nil _) (t7z M _ _) (fun x hx => by cases hx), fun _ => rfl⟩
  · cases hs

/-! ### The size -/
def szV (left : Int) (n : Nat) : Int := IntKind.wrap .i64 (left - n)
theorem z16a (M : Mem) (left : Int) (b off n c : Nat) : evFU Try.prog M (ovS shT Try.prog M) [] [] [] [10] 300 Try.f16 [slM b off n c, .int .i64 left] [] [false] = some ((.int .i64 (szV left n), [], []), [(decide (szV left n < 0), false)]) := by kernel_rfl
theorem z16b (M : Mem) (left : Int) (b off n c : Nat) : evFU Try.prog M (ovS shT Try.prog M) [] [] [] [10] 300 Try.f16 [slM b off n c, .int .i64 left] [] [true] = some ((.int .i64 (-1), [], []), [(decide (szV left n < 0), true)]) := by kernel_rfl
theorem z16z (M : Mem) : evFU Try.prog M (ovS shT Try.prog M) [] [] [] [] 300 Try.f16 [.slice none 0 0, .int .i64 1048576] [] [] = some ((.int .i64 1048576, [], []), []) := by kernel_rfl
/-- What is left behind n buckets. -/
def szR (left : Int) (n : Nat) : Int := if szV left n < 0 then -1 else szV left n
def szSum : Sum := { f := 16, ro := true, S := fun args os => match args, os with
  | [.slice (some ⟨b, off, none⟩) n c, .int .i64 left], [] => some (.int .i64 (szR left n), [], [])
  | [.slice none 0 0, .int .i64 1048576], [] => some (.int .i64 1048576, [], [])
  | _, _ => none }
theorem szs (M : Mem) : szSum.Sound Try.prog M := by
  refine sum_sound Try.func16 (by kernel_rfl) (by kernel_rfl) fun args os v os' ns hs => ?_
  simp only [szSum] at hs
  split at hs
  · rename_i b off n c left
    cases hs
    refine ⟨?_, fun _ => rfl⟩
    unfold szR
    by_cases h : szV left n < 0
    · rw [if_pos h]
      exact acalls_of_evFU (ovS_ok shT _ _) nilC mix Try.func16 (hooksOk_nil _) (z16b M _ _ _ _ _) (held_one (decide_eq_true h))
    · rw [if_neg h]
      exact acalls_of_evFU (ovS_ok shT _ _) nilC mix Try.func16 (hooksOk_nil _) (z16a M _ _ _ _ _) (held_one (decide_eq_false h))
  · cases hs
    exact ⟨acalls_of_evFU (ovS_ok shT _ _) nilC mix Try.func16 (hooksOk_nil _) (z16z M) (fun x hx => by cases hx), fun _ => rfl⟩
  · cases hs
theorem z5a (M : Mem) (most sw left : Int) (b off n c : Nat) : evFU Try.prog M (ovS shT Try.prog M) [] [] [szSum] [10] 300 Try.f5 [.agg ⟨[.int .i64 most, .int .i64 sw, slM b off n c]⟩, .int .i64 left] [] [false] = some ((.int .i64 (szR left n), [], []), [(decide (szR left n < 0), false)]) := by kernel_rfl
theorem z5b (M : Mem) (most sw left : Int) (b off n c : Nat) : evFU Try.prog M (ovS shT Try.prog M) [] [] [szSum] [10] 300 Try.f5 [.agg ⟨[.int .i64 most, .int .i64 sw, slM b off n c]⟩, .int .i64 left] [] [true] = some ((.int .i64 (-1), [], []), [(decide (szR left n < 0), true)]) := by kernel_rfl
theorem z5z (M : Mem) (most sw : Int) : evFU Try.prog M (ovS shT Try.prog M) [] [] [szSum] [] 300 Try.f5 [.agg ⟨[.int .i64 most, .int .i64 sw, .slice none 0 0]⟩, .int .i64 1048576] [] [] = some ((.int .i64 1048576, [], []), []) := by kernel_rfl
def szLSum : Sum := { f := 5, ro := true, S := fun args os => match args, os with
  | [.agg ⟨[.int .i64 most, .int .i64 sw, .slice (some ⟨b, off, none⟩) n c]⟩, .int .i64 left], [] => some (.int .i64 (szR left n), [], [])
  | [.agg ⟨[.int .i64 most, .int .i64 sw, .slice none 0 0]⟩, .int .i64 1048576], [] => some (.int .i64 1048576, [], [])
  | _, _ => none }
theorem szR_neg {left : Int} {n : Nat} (h : szR left n < 0) : szR left n = -1 := by
  unfold szR at h ⊢
  split
  · rfl
  · rename_i h2; rw [if_neg h2] at h; exact absurd h h2
theorem szLs (M : Mem) : szLSum.Sound Try.prog M := by
  refine sum_sound Try.func5 (by kernel_rfl) (by kernel_rfl) fun args os v os' ns hs => ?_
  simp only [szLSum] at hs
  have hl : ∀ s ∈ [szSum], s.SoundC Try.prog M := consC (szs M).c nilC
  split at hs
  · rename_i most sw b off n c left
    cases hs
    refine ⟨?_, fun _ => rfl⟩
    by_cases h : szR left n < 0
    · rw [szR_neg h]
      exact acalls_of_evFU (ovS_ok shT _ _) hl mix Try.func5 (hooksOk_nil _) (z5b M _ _ _ _ _ _ _) (held_one (decide_eq_true h))
    · exact acalls_of_evFU (ovS_ok shT _ _) hl mix Try.func5 (hooksOk_nil _) (z5a M _ _ _ _ _ _ _) (held_one (decide_eq_false h))
  · cases hs
    exact ⟨acalls_of_evFU (ovS_ok shT _ _) hl mix Try.func5 (hooksOk_nil _) (z5z M _ _) (fun x hx => by cases hx), fun _ => rfl⟩
  · cases hs
end Go.Proofs.Ytfkdcpinajnbfaa
