/- The reference's L5Valid: it says whether a limiter is a valid one.
   Conditions: none. -/
import Derived.Test.YtfkdcpinajnbfaaTo2
import Derived.Test.YtfkdcpinajnbfaaTable
open Go.Ab
set_option linter.unusedVariables false
set_option linter.unusedSimpArgs false
namespace Go.Proofs.Ytfkdcpinajnbfaa
set_option maxRecDepth 100000

def keqB (k k' : Key) : Bool := (k.a0 == k'.a0) && ((k.a1 == k'.a1) && ((k.a2 == k'.a2) && ((k.a3 == k'.a3) && ((k.a4 == k'.a4) && ((k.a5 == k'.a5) && ((k.a6 == k'.a6) && ((k.a7 == k'.a7) && ((k.a8 == k'.a8) && true))))))))
theorem keqB_eq (k k' : Key) : keqB k k' = decide (k = k') := by
  obtain ⟨a0, a1, a2, a3, a4, a5, a6, a7, a8⟩ := k
  obtain ⟨b0, b1, b2, b3, b4, b5, b6, b7, b8⟩ := k'
  rw [Bool.eq_iff_iff]
  simp [keqB]
def keyPin (R : List Value) (gr : Bool) (es n : Nat) (j : Int) : Pins := [(inB j n, true), (arrB ⟨R, gr, es, true⟩ (n * 11) (0 + j.toNat * 11) 9 .u8, true)]
theorem keyPin_held {L : List Bk} {gr : Bool} {es k : Nat} {b : Bk} (h : L[k]? = some b) : Held (keyPin (rowsL L) gr es L.length k) := by
  have hk := (List.getElem?_eq_some_iff.1 h).1
  have e : (k : Int).toNat = k := Int.toNat_natCast k
  refine held_cons (by rw [inB_iff]; omega) (held_one ?_)
  simp only [arrB, rowsL_length, decide_true, Bool.true_and, Bool.and_eq_true, decide_eq_true_eq, List.all_eq_true, List.mem_range, e]
  refine ⟨by omega, fun j hj => ?_⟩
  rw [rows_at h j (by omega)]
  match j, hj with
  | 0, _ => rfl
  | 1, _ => rfl
  | 2, _ => rfl
  | 3, _ => rfl
  | 4, _ => rfl
  | 5, _ => rfl
  | 6, _ => rfl
  | 7, _ => rfl
  | 8, _ => rfl

noncomputable def c17 : Code := Try.f17.body.getD .skip
noncomputable def b17 : Code := loopOf 0 c17
noncomputable def d17 : Code := (occ 1 c17).getD 0 .skip
noncomputable def e17 : Code := loopOf 2 c17
theorem body17 : Try.f17.body = some c17 := by kernel_rfl
theorem items17 : items c17 = [itemN c17 0, itemN c17 1, itemN c17 2, itemN c17 3, .block 0 (.loop b17), itemN c17 5, itemN c17 6] := by kernel_rfl
theorem itemsB17 : items b17 = [itemN b17 0, itemN b17 1, .block 1 d17, itemN b17 3] := by kernel_rfl
theorem itemsD17 : items d17 = [itemN d17 0, itemN d17 1, itemN d17 2, itemN d17 3, .block 2 (.loop e17)] := by kernel_rfl
section
variable (M : Mem) (R : List Value) (gr : Bool) (es n c : Nat) (most sw now : Int) (z : Nat → Value) (i j : Int) (b b' : Bk)
abbrev v17 (now : Int) (n c : Nat) (i : Int) (x : List Value) : List Value := [.int .i64 now, .pointer (some ⟨1, 0, some 3⟩), slR n c, .int .i64 n, .int .i64 i] ++ x
theorem v17h : viewU [1, 2, 40, 41, 42] (evL Try.prog M (ovS shT Try.prog M) [] [] [] [9, 13, 18, 26, 31, 37] 200 [itemN c17 0, itemN c17 1, itemN c17 2, itemN c17 3] ⟨[.agg #[.int .i64 most, .int .i64 sw, slR n c], .int .i64 now] ++ List.replicate (Try.f17.ntmps - 2) undef, [some ⟨R, gr, es, true⟩]⟩ [false, false, false, false, false, false])
   = some (.normal, v17 now n c 0 [], hS R gr es n c most sw, Try.f17.ntmps, headP false false false false false false n most sw now) := by kernel_rfl
theorem v17b (j : Nat) (hj : j < 6) : viewU [4] (evL Try.prog M (ovS shT Try.prog M) [] [] [] [9, 13, 18, 26, 31, 37] 200 [itemN c17 0, itemN c17 1, itemN c17 2, itemN c17 3] ⟨[.agg #[.int .i64 most, .int .i64 sw, slR n c], .int .i64 now] ++ List.replicate (Try.f17.ntmps - 2) undef, [some ⟨R, gr, es, true⟩]⟩ (badO j))
   = some (.ret, [.bool false], hS R gr es n c most sw, Try.f17.ntmps, badP j n most sw now) := by
  obtain rfl | rfl | rfl | rfl | rfl | rfl : j = 0 ∨ j = 1 ∨ j = 2 ∨ j = 3 ∨ j = 4 ∨ j = 5 := by omega
  all_goals kernel_rfl
theorem v17t : viewU [1, 2, 40, 41, 42] (evL Try.prog M (ovS shT Try.prog M) [] [] [] [43] 200 [itemN b17 0, itemN b17 1] ⟨mkT Try.f17.ntmps [1, 2, 40, 41, 42] (v17 now n c i []) z, hS R gr es n c most sw⟩ [true])
   = some (.normal, v17 now n c i [], hS R gr es n c most sw, Try.f17.ntmps, [(decide (i < (n : Int)), true)]) := by kernel_rfl
theorem v17x : viewU [1, 2, 40, 41, 42] (evL Try.prog M (ovS shT Try.prog M) [] [] [] [43] 200 [itemN b17 0, itemN b17 1] ⟨mkT Try.f17.ntmps [1, 2, 40, 41, 42] (v17 now n c i []) z, hS R gr es n c most sw⟩ [false])
   = some (.exit 0, v17 now n c i [], hS R gr es n c most sw, Try.f17.ntmps, [(decide (i < (n : Int)), false)]) := by kernel_rfl
theorem v17l (hb : bkAt R (0 + i.toNat * 11) = b) : viewU [1, 2, 40, 41, 42, 5, 6] (evL Try.prog M (ovS shT Try.prog M) [45, 46] [] [] [] 200 [itemN d17 0] ⟨mkT Try.f17.ntmps [1, 2, 40, 41, 42] (v17 now n c i []) z, hS R gr es n c most sw⟩ [])
   = some (.normal, v17 now n c i [.int .i64 i, .pointer (some ⟨2, 0, some 11⟩)], hB R gr es n c most sw b, Try.f17.ntmps, rowPin R n i) := by subst hb; kernel_rfl
abbrev w17 (now : Int) (n c : Nat) (i : Int) (x : List Value) : List Value := v17 now n c i ([.int .i64 i, .pointer (some ⟨2, 0, some 11⟩)] ++ x)
theorem v17g : viewU [1, 2, 40, 41, 42, 5, 6, 7] (evL Try.prog M (ovS shT Try.prog M) [] [] [] [49, 53, 58, 64] 200 [itemN d17 1, itemN d17 2, itemN d17 3] ⟨mkT Try.f17.ntmps [1, 2, 40, 41, 42, 5, 6] (w17 now n c i []) z, hB R gr es n c most sw b⟩ [false, false, false, false])
   = some (.normal, w17 now n c i [.int .i64 0], hB R gr es n c most sw b, Try.f17.ntmps, rowP false false false false b now) := by kernel_rfl
theorem v17n (j : Nat) (hj : j < 4) : viewU [4] (evL Try.prog M (ovS shT Try.prog M) [] [] [] [49, 53, 58, 64] 200 [itemN d17 1, itemN d17 2, itemN d17 3] ⟨mkT Try.f17.ntmps [1, 2, 40, 41, 42, 5, 6] (w17 now n c i []) z, hB R gr es n c most sw b⟩ (badO j))
   = some (.ret, [.bool false], hB R gr es n c most sw b, Try.f17.ntmps, badR j b now) := by
  obtain rfl | rfl | rfl | rfl : j = 0 ∨ j = 1 ∨ j = 2 ∨ j = 3 := by omega
  all_goals kernel_rfl
theorem v17k (hb' : bkAt R (0 + j.toNat * 11) = b') : viewU [1, 2, 40, 41, 42, 5, 6, 7] (evL Try.prog M (ovS shT Try.prog M) [74, 76] [] [] [68, 79] 400 (items e17) ⟨mkT Try.f17.ntmps [1, 2, 40, 41, 42, 5, 6, 7] (w17 now n c i [.int .i64 j]) z, hB R gr es n c most sw b⟩ [true, false])
   = some (.normal, w17 now n c i [.int .i64 (IntKind.wrap .i64 (j + 1))], hB R gr es n c most sw b, Try.f17.ntmps, (decide (j < i), true) :: (keyPin R gr es n j ++ [(keqB b'.k b.k, false)])) := by subst hb'; kernel_rfl
theorem v17d (hb' : bkAt R (0 + j.toNat * 11) = b') : viewU [4] (evL Try.prog M (ovS shT Try.prog M) [74, 76] [] [] [68, 79] 400 (items e17) ⟨mkT Try.f17.ntmps [1, 2, 40, 41, 42, 5, 6, 7] (w17 now n c i [.int .i64 j]) z, hB R gr es n c most sw b⟩ [true, true])
   = some (.ret, [.bool false], hB R gr es n c most sw b, Try.f17.ntmps, (decide (j < i), true) :: (keyPin R gr es n j ++ [(keqB b'.k b.k, true)])) := by subst hb'; kernel_rfl
theorem v17q : viewU [1, 2, 40, 41, 42, 5, 6, 7] (evL Try.prog M (ovS shT Try.prog M) [] [] [] [68] 400 (items e17) ⟨mkT Try.f17.ntmps [1, 2, 40, 41, 42, 5, 6, 7] (w17 now n c i [.int .i64 j]) z, hB R gr es n c most sw b⟩ [false])
   = some (.exit 2, w17 now n c i [.int .i64 j], hB R gr es n c most sw b, Try.f17.ntmps, [(decide (j < i), false)]) := by kernel_rfl
theorem v17i : viewU [1, 2, 40, 41, 42] (evL Try.prog M (ovS shT Try.prog M) [] [] [] [] 200 [itemN b17 3] ⟨mkT Try.f17.ntmps [1, 2, 40, 41, 42] (v17 now n c i []) z, hS R gr es n c most sw⟩ [])
   = some (.normal, v17 now n c (IntKind.wrap .i64 (i + 1)) [], hS R gr es n c most sw, Try.f17.ntmps, []) := by kernel_rfl
theorem v17e : viewU [4] (evL Try.prog M (ovS shT Try.prog M) [] [] [] [] 200 [itemN c17 5, itemN c17 6] ⟨mkT Try.f17.ntmps [1, 2, 40, 41, 42] (v17 now n c i []) z, hS R gr es n c most sw⟩ [])
   = some (.ret, [.bool true], hS R gr es n c most sw, Try.f17.ntmps, []) := by kernel_rfl
end

section
variable {M : Mem} {O : Org} {L : List Bk} {gr : Bool} {es c : Nat} {most sw now : Int}
abbrev I17 (M : Mem) (O : Org) (L : List Bk) (gr : Bool) (es c : Nat) (most sw now : Int) (i : Nat) (a : Go.Act) (w : World) : Prop := AtV M O Try.f17.ntmps [1, 2, 40, 41, 42] (v17 now L.length c i []) (hS (rowsL L) gr es L.length c most sw) [] (fun _ _ => False) a w
abbrev J17 (M : Mem) (O : Org) (L : List Bk) (gr : Bool) (es c : Nat) (most sw now : Int) (i : Nat) (b : Bk) (j : Nat) (a : Go.Act) (w : World) : Prop := AtV M O Try.f17.ntmps [1, 2, 40, 41, 42, 5, 6, 7] (w17 now L.length c i [.int .i64 j]) (hB (rowsL L) gr es L.length c most sw b) [] (fun _ _ => False) a w

theorem in17 {i : Nat} {b : Bk} {j : Nat} {b' : Bk} (hi : i ≤ 4096) (hj : j < i) (hb' : L[j]? = some b') (hne : b'.k ≠ b.k) {a : Go.Act} {w : World} (h : J17 M O L gr es c most sw now i b j a w) : e17.wp Try.prog (fun e a1 w1 => e = .normal ∧ J17 M O L gr es c most sw now i b (j + 1) a1 w1) a w := by
  refine wp_items e17 (wpL_end ?_)
  have hp : Held ((decide ((j : Int) < (i : Int)), true) :: (keyPin (rowsL L) gr es L.length j ++ [(keqB b'.k b.k, false)])) := held_cons (decide_eq_true (by omega)) (held_two (keyPin_held hb') (held_one (by rw [keqB_eq]; exact decide_eq_false hne)))
  refine h.items (ovS_ok shT _ _) nilC mix (fun c _ => hooksOk_nil c) (fun z => v17k M (rowsL L) gr es L.length c most sw now z i j b b' (bkAt_row hb')) hp rfl (fun _ a1 w1 h1 => ?_) fun hne => absurd rfl hne
  rw [wrap_next hj (by omega)] at h1
  exact ⟨rfl, h1⟩

/-- A right bucket. -/
theorem good17 (hO : O.h = [some ⟨rowsL L, gr, es, true⟩]) (hn : L.length ≤ 4096) {i : Nat} (hi : i < L.length) (hrow : RowsOk now (L.take (i + 1))) {a : Go.Act} {w : World} (h : I17 M O L gr es c most sw now i a w) : b17.wp Try.prog (fun e a1 w1 => e = .normal ∧ I17 M O L gr es c most sw now (i + 1) a1 w1) a w := by
  obtain ⟨b, hb⟩ : ∃ b, L[i]? = some b := ⟨_, List.getElem?_eq_getElem hi⟩
  have hsn : L.take (i + 1) = L.take i ++ [b] := by rw [List.take_add_one, hb]; rfl
  have hro : RowOk now b := hrow.rows b (by rw [hsn]; simp)
  have hne : ∀ j b', j < i → L[j]? = some b' → b'.k ≠ b.k := fun j b' hj hb' => by
    have := hrow.apart
    rw [hsn] at this
    refine (List.pairwise_append.1 this).2.2 b' ?_ b (by simp)
    rw [List.mem_iff_getElem?]
    exact ⟨j, by rw [List.getElem?_take, if_pos hj]; exact hb'⟩
  refine wp_items b17 ?_
  rw [itemsB17]
  show wpL Try.prog _ ([itemN b17 0, itemN b17 1] ++ [.block 1 d17, itemN b17 3]) a w
  refine h.items (ovS_ok shT _ _) nilC mix (fun c _ => hooksOk_nil c) (fun z => v17t M (rowsL L) gr es L.length c most sw now z i) (held_one (decide_eq_true (by omega))) rfl (fun _ a1 w1 h1 => ?_) fun hne => absurd rfl hne
  refine wpL_cons (R := I17 M O L gr es c most sw now i) (wp_block_items ?_) fun a2 w2 h2 => ?_
  · rw [itemsD17]
    show wpL Try.prog _ ([itemN d17 0] ++ [itemN d17 1, itemN d17 2, itemN d17 3, .block 2 (.loop e17)]) a1 w1
    refine h1.items (ovS_ok shT _ _) nilC mix (fun c _ => hooksOk_nil c) (fun z => v17l M (rowsL L) gr es L.length c most sw now z i b (bkAt_row hb)) (rowPin_held hb) rfl (fun _ a2 w2 h2 => ?_) fun hne => absurd rfl hne
    show wpL Try.prog _ ([itemN d17 1, itemN d17 2, itemN d17 3] ++ [.block 2 (.loop e17)]) a2 w2
    refine h2.items (ovS_ok shT _ _) nilC mix (fun c _ => hooksOk_nil c) (fun z => v17g M (rowsL L) gr es L.length c most sw now z i b) (row_held hro) rfl (fun _ a3 w3 h3 => ?_) fun hne => absurd rfl hne
    refine wpL_cons (r := []) (R := J17 M O L gr es c most sw now i b i) (wp_block (wp_loop_idx (J17 M O L gr es c most sw now i b) i h3 (fun j a w hj h => ?_) fun a w h => ?_)) fun a4 w4 h4 => ?_
    · obtain ⟨b', hb'⟩ : ∃ b', L[j]? = some b' := ⟨_, List.getElem?_eq_getElem (by omega)⟩
      exact in17 (by omega) hj hb' (hne j b' hj hb') h
    · refine wp_items e17 (wpL_end ?_)
      exact h.items (ovS_ok shT _ _) nilC mix (fun c _ => hooksOk_nil c) (fun z => v17q M (rowsL L) gr es L.length c most sw now z i i b) (held_one (by simp)) rfl (fun he => by cases he) fun _ a5 w5 h5 => ⟨by simp [AExit.to], rfl, h5⟩
    · have h5 := h4.live (live' := [1, 2, 40, 41, 42]) (V' := v17 now L.length c i []) (fun z => by kernel_rfl)
      exact ⟨rfl, h5.compact (keep := [0, 1]) (i0 := 1) (V' := v17 now L.length c i []) (lo := (hS (rowsL L) gr es L.length c most sw).filterMap id) (by kernel_rfl) (fun k hk => by rw [hO] at hk; simp at hk; subst hk; rfl)⟩
  · show wpL Try.prog _ ([itemN b17 3] ++ []) a2 w2
    refine h2.items (ovS_ok shT _ _) nilC mix (fun c _ => hooksOk_nil c) (fun z => v17i M (rowsL L) gr es L.length c most sw now z i) (fun x hx => by cases hx) rfl (fun _ a3 w3 h3 => ?_) fun hne => absurd rfl hne
    rw [wrap_next hi (by omega)] at h3
    exact ⟨rfl, h3⟩

/-- A wrong bucket. -/
theorem bad17 (hn : L.length ≤ 4096) {i : Nat} (hi : i < L.length) (hgood : RowsOk now (L.take i)) (hrow : ¬ RowsOk now (L.take (i + 1))) {a : Go.Act} {w : World} (h : I17 M O L gr es c most sw now i a w) :
    b17.wp Try.prog (fun e a1 w1 => e = .ret ∧ ∃ b, AtV M O Try.f17.ntmps [4] [.bool false] (hB (rowsL L) gr es L.length c most sw b) [] (fun _ _ => False) a1 w1) a w := by
  obtain ⟨b, hb⟩ : ∃ b, L[i]? = some b := ⟨_, List.getElem?_eq_getElem hi⟩
  have hsn : L.take (i + 1) = L.take i ++ [b] := by rw [List.take_add_one, hb]; rfl
  refine wp_items b17 ?_
  rw [itemsB17]
  show wpL Try.prog _ ([itemN b17 0, itemN b17 1] ++ [.block 1 d17, itemN b17 3]) a w
  refine h.items (ovS_ok shT _ _) nilC mix (fun c _ => hooksOk_nil c) (fun z => v17t M (rowsL L) gr es L.length c most sw now z i) (held_one (decide_eq_true (by omega))) rfl (fun _ a1 w1 h1 => ?_) fun hne => absurd rfl hne
  refine wp_then (e0 := .ret) (R := fun a1 w1 => ∃ b, AtV M O Try.f17.ntmps [4] [.bool false] (hB (rowsL L) gr es L.length c most sw b) [] (fun _ _ => False) a1 w1) (wp_block_items ?_) (fun he => by cases he) fun _ a2 w2 h2 => ⟨rfl, h2⟩
  rw [itemsD17]
  show wpL Try.prog _ ([itemN d17 0] ++ [itemN d17 1, itemN d17 2, itemN d17 3, .block 2 (.loop e17)]) a1 w1
  refine h1.items (ovS_ok shT _ _) nilC mix (fun c _ => hooksOk_nil c) (fun z => v17l M (rowsL L) gr es L.length c most sw now z i b (bkAt_row hb)) (rowPin_held hb) rfl (fun _ a2 w2 h2 => ?_) fun hne => absurd rfl hne
  show wpL Try.prog _ ([itemN d17 1, itemN d17 2, itemN d17 3] ++ [.block 2 (.loop e17)]) a2 w2
  rcases row_cases b now with hro | ⟨j, hj, hbad⟩
  rotate_left
  · exact h2.items (ovS_ok shT _ _) nilC mix (fun c _ => hooksOk_nil c) (fun z => v17n M (rowsL L) gr es L.length c most sw now z i b j hj) hbad rfl (fun he => by cases he) fun _ a3 w3 h3 => ⟨rfl, b, h3⟩
  refine h2.items (ovS_ok shT _ _) nilC mix (fun c _ => hooksOk_nil c) (fun z => v17g M (rowsL L) gr es L.length c most sw now z i b) (row_held hro) rfl (fun _ a3 w3 h3 => ?_) fun hne => absurd rfl hne
  -- the first bucket with this key
  have hex : ∃ j, j < i ∧ (∀ j' b', j' < j → L[j']? = some b' → b'.k ≠ b.k) ∧ ∃ b', L[j]? = some b' ∧ b'.k = b.k := by
    have key : ∀ m, m ≤ i → (∀ j b', j < m → L[j]? = some b' → b'.k ≠ b.k) ∨ ∃ j, j < m ∧ (∀ j' b', j' < j → L[j']? = some b' → b'.k ≠ b.k) ∧ ∃ b', L[j]? = some b' ∧ b'.k = b.k := by
      intro m
      induction m with
      | zero => intro _; exact .inl fun j b' hj => by omega
      | succ m ih =>
        intro hm
        rcases ih (by omega) with h1 | ⟨j, h1, h2⟩
        · obtain ⟨b', hb'⟩ : ∃ b', L[m]? = some b' := ⟨_, List.getElem?_eq_getElem (by omega)⟩
          by_cases he : b'.k = b.k
          · exact .inr ⟨m, by omega, h1, b', hb', he⟩
          · refine .inl fun j b'' hj hb'' => ?_
            rcases Nat.lt_succ_iff_lt_or_eq.1 hj with h3 | h3
            · exact h1 j b'' h3 hb''
            · subst h3; rw [hb'] at hb''; cases hb''; exact he
        · exact .inr ⟨j, by omega, h2⟩
    rcases key i (Nat.le_refl _) with h1 | h1
    · exfalso
      refine hrow ⟨fun x hx => ?_, ?_⟩
      · rw [hsn] at hx
        rcases List.mem_append.1 hx with hx | hx
        · exact hgood.rows x hx
        · simp at hx; subst hx; exact hro
      · rw [hsn]
        refine List.pairwise_append.2 ⟨hgood.apart, by simp, fun x hx y hy => ?_⟩
        simp at hy; subst hy
        rw [List.mem_iff_getElem?] at hx
        obtain ⟨j, hj⟩ := hx
        rw [List.getElem?_take] at hj
        split at hj
        · rename_i hji; exact h1 j x hji hj
        · cases hj
    · exact h1
  obtain ⟨j0, hj0, hbefore, b', hb', hbk⟩ := hex
  refine wp_then (c := .block 2 (.loop e17)) (K := wpL Try.prog _ []) (e0 := .ret) (R := fun a1 w1 => AtV M O Try.f17.ntmps [4] [.bool false] (hB (rowsL L) gr es L.length c most sw b) [] (fun _ _ => False) a1 w1)
    (wp_block (wp_loop_idx (J17 M O L gr es c most sw now i b) j0 h3 (fun j a w hj h => ?_) fun a w h => ?_)) (fun he => by cases he) fun _ a4 w4 h4 => ⟨rfl, b, h4⟩
  · obtain ⟨b'', hb''⟩ : ∃ b', L[j]? = some b' := ⟨_, List.getElem?_eq_getElem (by omega)⟩
    exact in17 (by omega) (by omega) hb'' (hbefore j b'' hj hb'') h
  · refine wp_items e17 (wpL_end ?_)
    have hp : Held ((decide ((j0 : Int) < (i : Int)), true) :: (keyPin (rowsL L) gr es L.length j0 ++ [(keqB b'.k b.k, true)])) := held_cons (decide_eq_true (by omega)) (held_two (keyPin_held hb') (held_one (by rw [keqB_eq]; exact decide_eq_true hbk)))
    exact h.items (ovS_ok shT _ _) nilC mix (fun c _ => hooksOk_nil c) (fun z => v17d M (rowsL L) gr es L.length c most sw now z i j0 b b' (bkAt_row hb')) hp rfl (fun he => by cases he) fun _ a5 w5 h5 => ⟨by simp [AExit.to], rfl, h5⟩
end

theorem valid17 {M : Mem} {L : List Bk} {gr : Bool} {es c : Nat} {most sw now : Int} (h : HeadOk most sw now L.length ∧ RowsOk now L) : ACalls Try.prog M 17 [.agg #[.int .i64 most, .int .i64 sw, slR L.length c], .int .i64 now] [⟨rowsL L, gr, es, true⟩] (.bool true) [⟨rowsL L, gr, es, true⟩] [] := by
  obtain ⟨hh, hrows⟩ := h
  have hn : L.length ≤ 4096 := by have := hh.h2; have := hh.h3; omega
  refine acalls_of_at Try.func17 body17 rfl fun O a w hO hat => ?_
  have hO' : O.h = [some ⟨rowsL L, gr, es, true⟩] := hO
  refine wp_items c17 ?_
  rw [items17]
  show wpL Try.prog _ ([itemN c17 0, itemN c17 1, itemN c17 2, itemN c17 3] ++ [.block 0 (.loop b17), itemN c17 5, itemN c17 6]) a w
  refine hat.items (ovS_ok shT _ _) nilC mix (fun c _ => hooksOk_nil c) (v17h M (rowsL L) gr es L.length c most sw now) (head_held hh) rfl (fun _ a1 w1 h1 => ?_) fun hne => absurd rfl hne
  refine wpL_cons (R := I17 M O L gr es c most sw now L.length) (wp_block (wp_loop_idx (I17 M O L gr es c most sw now) L.length h1 (fun i a w hi h => ?_) fun a w h => ?_)) fun a2 w2 h2 => ?_
  · exact good17 hO' hn hi ⟨fun b hb => hrows.rows b (List.mem_of_mem_take hb), hrows.apart.sublist (List.take_sublist _ _)⟩ h
  · refine wp_items b17 ?_
    rw [itemsB17]
    show wpL Try.prog _ ([itemN b17 0, itemN b17 1] ++ [.block 1 d17, itemN b17 3]) a w
    exact h.items (ovS_ok shT _ _) nilC mix (fun c _ => hooksOk_nil c) (fun z => v17x M (rowsL L) gr es L.length c most sw now z L.length) (held_one (by simp)) rfl (fun he => by cases he) fun _ a2 w2 h2 => ⟨by simp [AExit.to], rfl, h2⟩
  · show wpL Try.prog _ ([itemN c17 5, itemN c17 6] ++ []) a2 w2
    refine h2.items (ovS_ok shT _ _) nilC mix (fun c _ => hooksOk_nil c) (fun z => v17e M (rowsL L) gr es L.length c most sw now z L.length) (fun x hx => by cases hx) rfl (fun he => by cases he) fun _ a3 w3 h3 => ?_
    obtain ⟨z, h3⟩ := h3
    exact ⟨.inr rfl, _, _, _, _, _, _, h3, by kernel_rfl, rfl, rfl, rfl⟩

theorem invalid17 {M : Mem} {L : List Bk} {gr : Bool} {es c : Nat} {most sw now : Int} (h : ¬ (HeadOk most sw now L.length ∧ RowsOk now L)) : ACalls Try.prog M 17 [.agg #[.int .i64 most, .int .i64 sw, slR L.length c], .int .i64 now] [⟨rowsL L, gr, es, true⟩] (.bool false) [⟨rowsL L, gr, es, true⟩] [] := by
  refine acalls_of_at Try.func17 body17 rfl fun O a w hO hat => ?_
  have hO' : O.h = [some ⟨rowsL L, gr, es, true⟩] := hO
  refine wp_items c17 ?_
  rw [items17]
  show wpL Try.prog _ ([itemN c17 0, itemN c17 1, itemN c17 2, itemN c17 3] ++ [.block 0 (.loop b17), itemN c17 5, itemN c17 6]) a w
  rcases head_cases most sw now L.length with hh | ⟨j, hj, hbad⟩
  rotate_left
  · refine hat.items (ovS_ok shT _ _) nilC mix (fun c _ => hooksOk_nil c) (v17b M (rowsL L) gr es L.length c most sw now j hj) hbad rfl (fun he => by cases he) fun _ a1 w1 h1 => ?_
    obtain ⟨z, h1⟩ := h1
    exact ⟨.inr rfl, _, _, _, _, _, _, h1, by kernel_rfl, rfl, rfl, rfl⟩
  have hn : L.length ≤ 4096 := by have := hh.h2; have := hh.h3; omega
  refine hat.items (ovS_ok shT _ _) nilC mix (fun c _ => hooksOk_nil c) (v17h M (rowsL L) gr es L.length c most sw now) (head_held hh) rfl (fun _ a1 w1 h1 => ?_) fun hne => absurd rfl hne
  rcases first_bad now L L.length with hrows | ⟨k0, hk0, hgood, hbad⟩
  · rw [List.take_length] at hrows; exact absurd ⟨hh, hrows⟩ h
  refine wp_then (c := .block 0 (.loop b17)) (K := wpL Try.prog _ [itemN c17 5, itemN c17 6]) (e0 := .ret) (R := fun a1 w1 => ∃ b, AtV M O Try.f17.ntmps [4] [.bool false] (hB (rowsL L) gr es L.length c most sw b) [] (fun _ _ => False) a1 w1)
    (wp_block (wp_loop_idx (I17 M O L gr es c most sw now) k0 h1 (fun i a w hi h => ?_) fun a w h => ?_)) (fun he => by cases he) fun _ a2 w2 h2 => ?_
  · have ht : L.take (i + 1) = (L.take k0).take (i + 1) := by rw [List.take_take, Nat.min_eq_left (by omega)]
    exact good17 hO' hn (by omega) ⟨fun b hb => hgood.rows b (by rw [ht] at hb; exact List.mem_of_mem_take hb), by rw [ht]; exact hgood.apart.sublist (List.take_sublist _ _)⟩ h
  · refine wp_mono (bad17 hn hk0 hgood hbad h) ?_
    rintro e a2 w2 ⟨rfl, h⟩
    exact ⟨by simp, rfl, h⟩
  · obtain ⟨b, z, h2⟩ := h2
    exact ⟨.inr rfl, _, _, _, _, _, _, h2, by kernel_rfl, rfl, rfl, rfl⟩
end Go.Proofs.Ytfkdcpinajnbfaa
