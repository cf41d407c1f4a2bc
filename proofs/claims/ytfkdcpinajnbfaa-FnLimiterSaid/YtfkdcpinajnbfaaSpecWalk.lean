/- The reference's Allow: what it answers, in plain words.
   Conditions: a clock that fits its kind. -/
import Derived.Test.YtfkdcpinajnbfaaSpecE
open Go.Ab
set_option linter.unusedVariables false
set_option linter.unusedSimpArgs false
namespace Go.Proofs.Ytfkdcpinajnbfaa
set_option maxRecDepth 100000

theorem valT (M : Mem) (want : Bool) : (valSum M want).SoundC Try.prog M := by
  refine sumC_sound Try.func17 (by kernel_rfl) (by kernel_rfl) fun args os v os' ns hs hp => ?_
  simp only [valSum] at hs hp
  split at hs
  · rename_i most sw m n c now R gr es
    cases hs
    refine ⟨?_, fun _ => rfl⟩
    obtain ⟨rfl, L, rfl, rfl, hv⟩ := @of_decide_eq_true _ (Classical.propDecidable _) (hp _ (List.Mem.head _))
    cases want with
    | true => exact valid17 (hv.2 rfl)
    | false => exact invalid17 fun h => by have := hv.1 h; cases this
  · cases hs

/-- What the reference lets grow. -/
theorem grown_eq {now : Int} {b : Bk} (h : RowOk now b) (hn : now ≤ 9223372036854775807) {g : Int}
    (hg : (IntKind.wrap .i64 (now - b.last) < 250000000 ∧ IntKind.wrap .i64 (b.tok + IntKind.wrap .i64 (now - b.last)) < 250000000 ∧ g = IntKind.wrap .i64 (b.tok + IntKind.wrap .i64 (now - b.last))) ∨
      (¬ (IntKind.wrap .i64 (now - b.last) < 250000000 ∧ IntKind.wrap .i64 (b.tok + IntKind.wrap .i64 (now - b.last)) < 250000000) ∧ g = 250000000)) : g = grownR now b := by
  obtain ⟨h1, h2, h3, h4⟩ := h
  have e1 : IntKind.wrap .i64 (now - b.last) = now - b.last := Ab.wrap_i64 (by omega) (by omega)
  have e2 : IntKind.wrap .i64 (250000000 - b.tok) = 250000000 - b.tok := Ab.wrap_i64 (by omega) (by omega)
  unfold grownR
  rw [e1] at hg
  rw [e1, e2]
  by_cases hd : now - b.last < 250000000
  · have e3 : IntKind.wrap .i64 (b.tok + (now - b.last)) = b.tok + (now - b.last) := Ab.wrap_i64 (by omega) (by omega)
    rw [e3] at hg
    split
    · rw [Ab.wrap_i64 (by omega) (by omega)]; rcases hg with ⟨_, _, rfl⟩ | ⟨_, rfl⟩ <;> omega
    · rw [Ab.wrap_i64 (by omega) (by omega)]; rcases hg with ⟨_, _, rfl⟩ | ⟨_, rfl⟩ <;> omega
  · split
    · rw [Ab.wrap_i64 (by omega) (by omega)]; rcases hg with ⟨_, _, rfl⟩ | ⟨_, rfl⟩ <;> omega
    · rw [Ab.wrap_i64 (by omega) (by omega)]; rcases hg with ⟨_, _, rfl⟩ | ⟨_, rfl⟩ <;> omega

section
abbrev v6 (now : Int) (sp fo pa : Bool) (n c : Nat) (i : Int) (x : List Value) : List Value := [.int .i64 now, .pointer (some ⟨1, 0, some 3⟩), .pointer (some ⟨2, 0, some 9⟩), .pointer (some ⟨3, 0, some 3⟩), .pointer (some ⟨4, 0, some 3⟩), .bool sp, .bool fo, .bool pa, slR n c, .int .i64 n, .int .i64 i] ++ x
abbrev h6N (R : List Value) (gr : Bool) (es n c : Nat) (most sw sw' : Int) (key : Key) : AHeap := [some ⟨R, gr, es, true⟩, some (bxV (slR n c) most sw), some ⟨kc key, false, 1, true⟩, some ⟨[.int .i64 0, .int .i64 0, .slice none 0 0], false, 1, false⟩, some ⟨[.int .i64 most, .int .i64 sw', .slice none 0 0], false, 1, false⟩]
abbrev h6G (R : List Value) (gr : Bool) (es n c : Nat) (most sw sw' : Int) (key : Key) (D : List Value) (k : Nat) : AHeap := [some ⟨R, gr, es, true⟩, some (bxV (slR n c) most sw), some ⟨kc key, false, 1, true⟩, some ⟨[.int .i64 0, .int .i64 0, .slice none 0 0], false, 1, false⟩, some ⟨[.int .i64 most, .int .i64 sw', .slice (some ⟨5, 0, some (k * 11)⟩) k k], false, 1, false⟩, some ⟨D, true, 11, true⟩]
abbrev L6 : List Nat := [2, 3, 4, 6, 8, 9, 10, 11, 34, 35, 36]
abbrev L6b : List Nat := [2, 3, 4, 6, 8, 9, 10, 11, 34, 35, 36, 13]
variable {M : Mem} {O : Org} {L : List Bk} {gr : Bool} {es c : Nat} {most sw sw' now : Int} {key : Key} {sp : Bool}

/-- The state of the reference's loop. -/
def I6 (M : Mem) (O : Org) (L : List Bk) (gr : Bool) (es c : Nat) (most sw sw' now : Int) (key : Key) (sp : Bool) (i : Int) (fo pa : Bool) (out : List Bk) (a : Go.Act) (w : World) : Prop :=
  if out = [] then AtV M O Try.f6.ntmps L6 (v6 now sp fo pa L.length c i []) (h6N (rowsL L) gr es L.length c most sw sw' key) [] (fun _ _ => False) a w
  else AtV M O Try.f6.ntmps L6 (v6 now sp fo pa L.length c i []) (h6G (rowsL L) gr es L.length c most sw sw' key (rowsL out) out.length) [] (fun _ _ => False) a w
theorem I6.nil {i : Int} {fo pa : Bool} {a : Go.Act} {w : World} (h : I6 M O L gr es c most sw sw' now key sp i fo pa [] a w) : AtV M O Try.f6.ntmps L6 (v6 now sp fo pa L.length c i []) (h6N (rowsL L) gr es L.length c most sw sw' key) [] (fun _ _ => False) a w := by
  unfold I6 at h; rwa [if_pos rfl] at h
theorem I6.ne {i : Int} {fo pa : Bool} {out : List Bk} (ho : out ≠ []) {a : Go.Act} {w : World} (h : I6 M O L gr es c most sw sw' now key sp i fo pa out a w) : AtV M O Try.f6.ntmps L6 (v6 now sp fo pa L.length c i []) (h6G (rowsL L) gr es L.length c most sw sw' key (rowsL out) out.length) [] (fun _ _ => False) a w := by
  unfold I6 at h; rwa [if_neg ho] at h
theorem I6.of_nil {i : Int} {fo pa : Bool} {a : Go.Act} {w : World} (h : AtV M O Try.f6.ntmps L6 (v6 now sp fo pa L.length c i []) (h6N (rowsL L) gr es L.length c most sw sw' key) [] (fun _ _ => False) a w) : I6 M O L gr es c most sw sw' now key sp i fo pa [] a w := by
  unfold I6; rwa [if_pos rfl]
theorem I6.of_ne {i : Int} {fo pa : Bool} {out : List Bk} (ho : out ≠ []) {a : Go.Act} {w : World} (h : AtV M O Try.f6.ntmps L6 (v6 now sp fo pa L.length c i []) (h6G (rowsL L) gr es L.length c most sw sw' key (rowsL out) out.length) [] (fun _ _ => False) a w) : I6 M O L gr es c most sw sw' now key sp i fo pa out a w := by
  unfold I6; rwa [if_neg ho]

/-- One bucket, as the reference goes over it. -/
def refStep (now : Int) (key : Key) (sp : Bool) (b : Bk) (s : Bool × Bool × List Bk) : Bool × Bool × List Bk :=
  if sp && idleB now b then s else if b.k = key then (true, decide (grownR now b ≥ 50000000), s.2.2 ++ [askB now b]) else (s.1, s.2.1, s.2.2 ++ [b])

theorem rows_snoc (out : List Bk) (b : Bk) : (rowsL out).take (out.length * 11) ++ bc b = rowsL (out ++ [b]) := by
  rw [List.take_of_length_le (by rw [rowsL_length]; exact Nat.le_refl _)]
  simp [rowsL]

/-- What is appended (N). -/
theorem app6N (hO : O.h = [some ⟨rowsL L, gr, es, true⟩]) {fo pa : Bool} {i : Int} {out : List Bk} (ho : out = []) (hlen : out.length ≤ 4096) {b : Bk} {a : Go.Act} {w : World}
    (h : AtV M O Try.f6.ntmps L6b (v6 now sp fo pa L.length c i [.pointer (some ⟨5, 0, some 11⟩)]) (h6N (rowsL L) gr es L.length c most sw sw' key ++ [some ⟨bc b, false, 1, true⟩]) [] (fun _ _ => False) a w) {Q : Exit → Go.Act → World → Prop}
    (k1 : ∀ a1 w1, I6 M O L gr es c most sw sw' now key sp i fo pa (out ++ [b]) a1 w1 → Q .normal a1 w1) : wpL Try.prog Q [itemN d6 5] a w := by
  refine wpL_end ?_
  show wpL Try.prog Q ([itemN d6 5] ++ []) a w
  refine h.items (ovS_ok shT _ _) nilC mix (fun c _ => hooksOk_nil c) (fun z => s6aN M (rowsL L) gr es L.length c most sw sw' now key z i b sp fo pa) (fun x hx => by cases hx) rfl (fun _ a1 w1 h1 => ?_) fun hne => absurd rfl hne
  subst ho
  have h2 := h1.compact (keep := [0, 1, 2, 3, 4, 7]) (i0 := 1) (V' := v6 now sp fo pa L.length c i []) (lo := (h6G (rowsL L) gr es L.length c most sw sw' key (bc b) 1).filterMap id) (by kernel_rfl) (fun k hk => by rw [hO] at hk; simp at hk; subst hk; rfl)
  refine k1 a1 w1 (I6.of_ne (by simp) ?_)
  have e1 : rowsL ([] ++ [b]) = bc b := by simp [rowsL]
  rw [e1]
  exact h2

/-- A round (N). -/
theorem round6N (hO : O.h = [some ⟨rowsL L, gr, es, true⟩]) (hnow : now ≤ 9223372036854775807) (hn : L.length ≤ 4096) {i : Nat} {b : Bk} (hb : L[i]? = some b) (hro : RowOk now b) {fo pa : Bool} {out : List Bk} (ho : out = []) (hlen : out.length ≤ i) {a : Go.Act} {w : World}
    (h : AtV M O Try.f6.ntmps L6 (v6 now sp fo pa L.length c i []) (h6N (rowsL L) gr es L.length c most sw sw' key) [] (fun _ _ => False) a w) :
    d6.wp Try.prog (Exit.inBlock 1 fun e a1 w1 => e = .normal ∧ I6 M O L gr es c most sw sw' now key sp i (refStep now key sp b (fo, pa, out)).1 (refStep now key sp b (fo, pa, out)).2.1 (refStep now key sp b (fo, pa, out)).2.2 a1 w1) a w := by
  have hi := (List.getElem?_eq_some_iff.1 hb).1
  refine wp_items d6 ?_
  rw [itemsD6]
  show wpL Try.prog _ ([itemN d6 0] ++ [itemN d6 1, itemN d6 2, itemN d6 3, .cond (.tmp 51) k6 .skip, itemN d6 5]) a w
  refine h.items (ovS_ok shT _ _) nilC mix (fun c _ => hooksOk_nil c) (fun z => s6lN M (rowsL L) gr es L.length c most sw sw' now key z i b sp fo pa  (bkAt_row hb)) (rowPin_held hb) rfl (fun _ a1 w1 h1 => ?_) fun hne => absurd rfl hne
  show wpL Try.prog _ ([itemN d6 1, itemN d6 2] ++ [itemN d6 3, .cond (.tmp 51) k6 .skip, itemN d6 5]) a1 w1
  have rest : (sp && idleB now b) = false → ∀ a2 w2, AtV M O Try.f6.ntmps L6b (v6 now sp fo pa L.length c i [.pointer (some ⟨5, 0, some 11⟩)]) (h6N (rowsL L) gr es L.length c most sw sw' key ++ [some ⟨bc b, false, 1, true⟩]) [] (fun _ _ => False) a2 w2 →
      wpL Try.prog (Exit.inBlock 1 fun e a1 w1 => e = .normal ∧ I6 M O L gr es c most sw sw' now key sp i (refStep now key sp b (fo, pa, out)).1 (refStep now key sp b (fo, pa, out)).2.1 (refStep now key sp b (fo, pa, out)).2.2 a1 w1) [itemN d6 3, .cond (.tmp 51) k6 .skip, itemN d6 5] a2 w2 := by
    intro hsk a2 w2 h2
    show wpL Try.prog _ ([itemN d6 3] ++ [.cond (.tmp 51) k6 .skip, itemN d6 5]) a2 w2
    by_cases hk : b.k = key
    · refine h2.items (ovS_ok shT _ _) nilC mix (fun c _ => hooksOk_nil c) (fun z => s6ktrueN M (rowsL L) gr es L.length c most sw sw' now key z i b sp fo pa ) (held_one (by rw [keqB_eq]; exact decide_eq_true hk)) rfl (fun _ a3 w3 h3 => ?_) fun hne => absurd rfl hne
      have e1 : a3.eval (.tmp 51) = .bool true := h3.eval (fun z => by kernel_rfl) rfl
      have h4 := h3.live (live' := L6b) (V' := v6 now sp fo pa L.length c i [.pointer (some ⟨5, 0, some 11⟩)]) (fun z => by kernel_rfl)
      have hst : refStep now key sp b (fo, pa, out) = (true, decide (grownR now b ≥ 50000000), out ++ [askB now b]) := by unfold refStep; rw [hsk, if_neg (by simp), if_pos hk]
      rw [hst]
      refine wpL_cons (R := fun a4 w4 => AtV M O Try.f6.ntmps L6b (v6 now sp true (decide (grownR now b ≥ 50000000)) L.length c i [.pointer (some ⟨5, 0, some 11⟩)]) (h6N (rowsL L) gr es L.length c most sw sw' key ++ [some ⟨bc (askB now b), false, 1, true⟩]) [] (fun _ _ => False) a4 w4) (wp_cond_true e1 (wp_items k6 ?_)) fun a4 w4 h5 => ?_
      · rw [itemsK6]
        show wpL Try.prog _ ([itemN k6 0, itemN k6 1, itemN k6 2, itemN k6 3] ++ [itemN k6 4, itemN k6 5, itemN k6 6, itemN k6 7]) a3 w3
        have tail : ∀ g, g = grownR now b → ∀ a5 w5, AtV M O Try.f6.ntmps [2, 3, 4, 6, 8, 9, 10, 11, 34, 35, 36, 13, 14] (v6 now sp true pa L.length c i [.pointer (some ⟨5, 0, some 11⟩), .int .i64 g]) (h6N (rowsL L) gr es L.length c most sw sw' key ++ [some ⟨bc b, false, 1, true⟩]) [] (fun _ _ => False) a5 w5 →
            wpL Try.prog (fun e a1 w1 => e = .normal ∧ AtV M O Try.f6.ntmps L6b (v6 now sp true (decide (grownR now b ≥ 50000000)) L.length c i [.pointer (some ⟨5, 0, some 11⟩)]) (h6N (rowsL L) gr es L.length c most sw sw' key ++ [some ⟨bc (askB now b), false, 1, true⟩]) [] (fun _ _ => False) a1 w1) [itemN k6 4, itemN k6 5, itemN k6 6, itemN k6 7] a5 w5 := by
          rintro g rfl a5 w5 h6
          refine wpL_end ?_
          unfold askB
          by_cases hg : grownR now b ≥ 50000000
          · rw [if_pos hg, decide_eq_true hg]
            have : passR now b = ⟨key, IntKind.wrap .i64 (grownR now b - 50000000), now⟩ := by unfold passR; rw [hk]
            rw [this]
            exact h6.items (ovS_ok shT _ _) nilC mix (fun c _ => hooksOk_nil c) (fun z => s6ptrueN M (rowsL L) gr es L.length c most sw sw' now key z i b sp pa  (grownR now b)) (held_one (decide_eq_true hg)) rfl (fun _ a6 w6 h7 => ⟨rfl, h7⟩) fun hne => absurd rfl hne
          · rw [if_neg hg, decide_eq_false hg]
            have : stayR now b = ⟨key, grownR now b, now⟩ := by unfold stayR; rw [hk]
            rw [this]
            exact h6.items (ovS_ok shT _ _) nilC mix (fun c _ => hooksOk_nil c) (fun z => s6pfalseN M (rowsL L) gr es L.length c most sw sw' now key z i b sp pa  (grownR now b)) (held_one (decide_eq_false hg)) rfl (fun _ a6 w6 h7 => ⟨rfl, h7⟩) fun hne => absurd rfl hne
        by_cases hd : IntKind.wrap .i64 (now - b.last) < 250000000
        · by_cases hd2 : IntKind.wrap .i64 (b.tok + IntKind.wrap .i64 (now - b.last)) < 250000000
          · exact h4.items (ovS_ok shT _ _) nilC mix (fun c _ => hooksOk_nil c) (fun z => s6gaN M (rowsL L) gr es L.length c most sw sw' now key z i b sp fo pa ) (held_cons (decide_eq_true hd) (held_one (decide_eq_true hd2))) rfl (fun _ a5 w5 h6 => tail _ (grown_eq hro hnow (.inl ⟨hd, hd2, rfl⟩)) a5 w5 h6) fun hne => absurd rfl hne
          · exact h4.items (ovS_ok shT _ _) nilC mix (fun c _ => hooksOk_nil c) (fun z => s6gbN M (rowsL L) gr es L.length c most sw sw' now key z i b sp fo pa ) (held_cons (decide_eq_true hd) (held_one (decide_eq_false hd2))) rfl (fun _ a5 w5 h6 => tail _ (grown_eq hro hnow (.inr ⟨fun h => hd2 h.2, rfl⟩)) a5 w5 h6) fun hne => absurd rfl hne
        · exact h4.items (ovS_ok shT _ _) nilC mix (fun c _ => hooksOk_nil c) (fun z => s6gcN M (rowsL L) gr es L.length c most sw sw' now key z i b sp fo pa ) (held_one (decide_eq_false hd)) rfl (fun _ a5 w5 h6 => tail _ (grown_eq hro hnow (.inr ⟨fun h => hd h.1, rfl⟩)) a5 w5 h6) fun hne => absurd rfl hne
      · exact app6N hO ho (by omega) h5 fun a6 w6 h6 => ⟨rfl, h6⟩
    · refine h2.items (ovS_ok shT _ _) nilC mix (fun c _ => hooksOk_nil c) (fun z => s6kfalseN M (rowsL L) gr es L.length c most sw sw' now key z i b sp fo pa ) (held_one (by rw [keqB_eq]; exact decide_eq_false hk)) rfl (fun _ a3 w3 h3 => ?_) fun hne => absurd rfl hne
      have e1 : a3.eval (.tmp 51) = .bool false := h3.eval (fun z => by kernel_rfl) rfl
      have h4 := h3.live (live' := L6b) (V' := v6 now sp fo pa L.length c i [.pointer (some ⟨5, 0, some 11⟩)]) (fun z => by kernel_rfl)
      have hst : refStep now key sp b (fo, pa, out) = (fo, pa, out ++ [b]) := by unfold refStep; rw [hsk, if_neg (by simp), if_neg hk]
      rw [hst]
      refine wpL_cons (R := fun a4 w4 => AtV M O Try.f6.ntmps L6b (v6 now sp fo pa L.length c i [.pointer (some ⟨5, 0, some 11⟩)]) (h6N (rowsL L) gr es L.length c most sw sw' key ++ [some ⟨bc b, false, 1, true⟩]) [] (fun _ _ => False) a4 w4) (wp_cond_false e1 (wp_skip ⟨rfl, h4⟩)) fun a4 w4 h5 => ?_
      exact app6N hO ho (by omega) h5 fun a6 w6 h6 => ⟨rfl, h6⟩
  cases sp with
  | false => exact h1.items (ovS_ok shT _ _) nilC mix (fun c _ => hooksOk_nil c) (fun z => s6allN M (rowsL L) gr es L.length c most sw sw' now key z i b fo pa ) (fun x hx => by cases hx) rfl (fun _ a2 w2 h2 => rest rfl a2 w2 h2) fun hne => absurd rfl hne
  | true =>
    by_cases hid : IntKind.wrap .i64 (now - b.last) > 1000000000
    · refine h1.items (ovS_ok shT _ _) nilC mix (fun c _ => hooksOk_nil c) (fun z => s6skipN M (rowsL L) gr es L.length c most sw sw' now key z i b fo pa ) (held_one (decide_eq_true hid)) rfl (fun he => by cases he) fun _ a2 w2 h2 => ?_
      have hst : refStep now key true b (fo, pa, out) = (fo, pa, out) := by unfold refStep idleB; rw [decide_eq_true hid, if_pos (by simp)]
      rw [hst]
      have h3 := h2.compact (keep := [0, 1, 2, 3, 4]) (i0 := 1) (V' := v6 now true fo pa L.length c i []) (lo := (h6N (rowsL L) gr es L.length c most sw sw' key).filterMap id) (by kernel_rfl) (fun k hk => by rw [hO] at hk; simp at hk; subst hk; rfl)
      exact ⟨rfl, ho ▸ I6.of_nil h3⟩
    · exact h1.items (ovS_ok shT _ _) nilC mix (fun c _ => hooksOk_nil c) (fun z => s6keepN M (rowsL L) gr es L.length c most sw sw' now key z i b fo pa ) (held_one (decide_eq_false hid)) rfl (fun _ a2 w2 h2 => rest (by unfold idleB; rw [decide_eq_false hid]; rfl) a2 w2 h2) fun hne => absurd rfl hne

/-- What is appended (G). -/
theorem app6G (hO : O.h = [some ⟨rowsL L, gr, es, true⟩]) {fo pa : Bool} {i : Int} {out : List Bk} (ho : out ≠ []) (hlen : out.length ≤ 4096) {b : Bk} {a : Go.Act} {w : World}
    (h : AtV M O Try.f6.ntmps L6b (v6 now sp fo pa L.length c i [.pointer (some ⟨6, 0, some 11⟩)]) (h6G (rowsL L) gr es L.length c most sw sw' key (rowsL out) out.length ++ [some ⟨bc b, false, 1, true⟩]) [] (fun _ _ => False) a w) {Q : Exit → Go.Act → World → Prop}
    (k1 : ∀ a1 w1, I6 M O L gr es c most sw sw' now key sp i fo pa (out ++ [b]) a1 w1 → Q .normal a1 w1) : wpL Try.prog Q [itemN d6 5] a w := by
  refine wpL_end ?_
  show wpL Try.prog Q ([itemN d6 5] ++ []) a w
  have hD : (rowsL out).length = out.length * 11 := rowsL_length out
  refine h.items (ovX_ok _ _) nilC mix (fun c _ => hooksOk_nil c) (fun z => s6aG M (rowsL L) gr es L.length c most sw sw' now key z i b sp fo pa (rowsL out) out.length) (held_one (by simp [hD, room]; omega)) rfl (fun _ a1 w1 h1 => ?_) fun hne => absurd rfl hne
  have h2 := h1.compact (keep := [0, 1, 2, 3, 4, 5]) (i0 := 1) (V' := v6 now sp fo pa L.length c i []) (lo := (h6G (rowsL L) gr es L.length c most sw sw' key ((rowsL out).take (out.length * 11) ++ bc b) (out.length + 1)).filterMap id) (by kernel_rfl) (fun k hk => by rw [hO] at hk; simp at hk; subst hk; rfl)
  rw [rows_snoc] at h2
  refine k1 a1 w1 (I6.of_ne (by simp) ?_)
  have e1 : (out ++ [b]).length = out.length + 1 := by simp
  rw [e1]
  exact h2

/-- A round (G). -/
theorem round6G (hO : O.h = [some ⟨rowsL L, gr, es, true⟩]) (hnow : now ≤ 9223372036854775807) (hn : L.length ≤ 4096) {i : Nat} {b : Bk} (hb : L[i]? = some b) (hro : RowOk now b) {fo pa : Bool} {out : List Bk} (ho : out ≠ []) (hlen : out.length ≤ i) {a : Go.Act} {w : World}
    (h : AtV M O Try.f6.ntmps L6 (v6 now sp fo pa L.length c i []) (h6G (rowsL L) gr es L.length c most sw sw' key (rowsL out) out.length) [] (fun _ _ => False) a w) :
    d6.wp Try.prog (Exit.inBlock 1 fun e a1 w1 => e = .normal ∧ I6 M O L gr es c most sw sw' now key sp i (refStep now key sp b (fo, pa, out)).1 (refStep now key sp b (fo, pa, out)).2.1 (refStep now key sp b (fo, pa, out)).2.2 a1 w1) a w := by
  have hi := (List.getElem?_eq_some_iff.1 hb).1
  refine wp_items d6 ?_
  rw [itemsD6]
  show wpL Try.prog _ ([itemN d6 0] ++ [itemN d6 1, itemN d6 2, itemN d6 3, .cond (.tmp 51) k6 .skip, itemN d6 5]) a w
  refine h.items (ovS_ok shT _ _) nilC mix (fun c _ => hooksOk_nil c) (fun z => s6lG M (rowsL L) gr es L.length c most sw sw' now key z i b sp fo pa (rowsL out) out.length (bkAt_row hb)) (rowPin_held hb) rfl (fun _ a1 w1 h1 => ?_) fun hne => absurd rfl hne
  show wpL Try.prog _ ([itemN d6 1, itemN d6 2] ++ [itemN d6 3, .cond (.tmp 51) k6 .skip, itemN d6 5]) a1 w1
  have rest : (sp && idleB now b) = false → ∀ a2 w2, AtV M O Try.f6.ntmps L6b (v6 now sp fo pa L.length c i [.pointer (some ⟨6, 0, some 11⟩)]) (h6G (rowsL L) gr es L.length c most sw sw' key (rowsL out) out.length ++ [some ⟨bc b, false, 1, true⟩]) [] (fun _ _ => False) a2 w2 →
      wpL Try.prog (Exit.inBlock 1 fun e a1 w1 => e = .normal ∧ I6 M O L gr es c most sw sw' now key sp i (refStep now key sp b (fo, pa, out)).1 (refStep now key sp b (fo, pa, out)).2.1 (refStep now key sp b (fo, pa, out)).2.2 a1 w1) [itemN d6 3, .cond (.tmp 51) k6 .skip, itemN d6 5] a2 w2 := by
    intro hsk a2 w2 h2
    show wpL Try.prog _ ([itemN d6 3] ++ [.cond (.tmp 51) k6 .skip, itemN d6 5]) a2 w2
    by_cases hk : b.k = key
    · refine h2.items (ovS_ok shT _ _) nilC mix (fun c _ => hooksOk_nil c) (fun z => s6ktrueG M (rowsL L) gr es L.length c most sw sw' now key z i b sp fo pa (rowsL out) out.length) (held_one (by rw [keqB_eq]; exact decide_eq_true hk)) rfl (fun _ a3 w3 h3 => ?_) fun hne => absurd rfl hne
      have e1 : a3.eval (.tmp 51) = .bool true := h3.eval (fun z => by kernel_rfl) rfl
      have h4 := h3.live (live' := L6b) (V' := v6 now sp fo pa L.length c i [.pointer (some ⟨6, 0, some 11⟩)]) (fun z => by kernel_rfl)
      have hst : refStep now key sp b (fo, pa, out) = (true, decide (grownR now b ≥ 50000000), out ++ [askB now b]) := by unfold refStep; rw [hsk, if_neg (by simp), if_pos hk]
      rw [hst]
      refine wpL_cons (R := fun a4 w4 => AtV M O Try.f6.ntmps L6b (v6 now sp true (decide (grownR now b ≥ 50000000)) L.length c i [.pointer (some ⟨6, 0, some 11⟩)]) (h6G (rowsL L) gr es L.length c most sw sw' key (rowsL out) out.length ++ [some ⟨bc (askB now b), false, 1, true⟩]) [] (fun _ _ => False) a4 w4) (wp_cond_true e1 (wp_items k6 ?_)) fun a4 w4 h5 => ?_
      · rw [itemsK6]
        show wpL Try.prog _ ([itemN k6 0, itemN k6 1, itemN k6 2, itemN k6 3] ++ [itemN k6 4, itemN k6 5, itemN k6 6, itemN k6 7]) a3 w3
        have tail : ∀ g, g = grownR now b → ∀ a5 w5, AtV M O Try.f6.ntmps [2, 3, 4, 6, 8, 9, 10, 11, 34, 35, 36, 13, 14] (v6 now sp true pa L.length c i [.pointer (some ⟨6, 0, some 11⟩), .int .i64 g]) (h6G (rowsL L) gr es L.length c most sw sw' key (rowsL out) out.length ++ [some ⟨bc b, false, 1, true⟩]) [] (fun _ _ => False) a5 w5 →
            wpL Try.prog (fun e a1 w1 => e = .normal ∧ AtV M O Try.f6.ntmps L6b (v6 now sp true (decide (grownR now b ≥ 50000000)) L.length c i [.pointer (some ⟨6, 0, some 11⟩)]) (h6G (rowsL L) gr es L.length c most sw sw' key (rowsL out) out.length ++ [some ⟨bc (askB now b), false, 1, true⟩]) [] (fun _ _ => False) a1 w1) [itemN k6 4, itemN k6 5, itemN k6 6, itemN k6 7] a5 w5 := by
          rintro g rfl a5 w5 h6
          refine wpL_end ?_
          unfold askB
          by_cases hg : grownR now b ≥ 50000000
          · rw [if_pos hg, decide_eq_true hg]
            have : passR now b = ⟨key, IntKind.wrap .i64 (grownR now b - 50000000), now⟩ := by unfold passR; rw [hk]
            rw [this]
            exact h6.items (ovS_ok shT _ _) nilC mix (fun c _ => hooksOk_nil c) (fun z => s6ptrueG M (rowsL L) gr es L.length c most sw sw' now key z i b sp pa (rowsL out) out.length (grownR now b)) (held_one (decide_eq_true hg)) rfl (fun _ a6 w6 h7 => ⟨rfl, h7⟩) fun hne => absurd rfl hne
          · rw [if_neg hg, decide_eq_false hg]
            have : stayR now b = ⟨key, grownR now b, now⟩ := by unfold stayR; rw [hk]
            rw [this]
            exact h6.items (ovS_ok shT _ _) nilC mix (fun c _ => hooksOk_nil c) (fun z => s6pfalseG M (rowsL L) gr es L.length c most sw sw' now key z i b sp pa (rowsL out) out.length (grownR now b)) (held_one (decide_eq_false hg)) rfl (fun _ a6 w6 h7 => ⟨rfl, h7⟩) fun hne => absurd rfl hne
        by_cases hd : IntKind.wrap .i64 (now - b.last) < 250000000
        · by_cases hd2 : IntKind.wrap .i64 (b.tok + IntKind.wrap .i64 (now - b.last)) < 250000000
          · exact h4.items (ovS_ok shT _ _) nilC mix (fun c _ => hooksOk_nil c) (fun z => s6gaG M (rowsL L) gr es L.length c most sw sw' now key z i b sp fo pa (rowsL out) out.length) (held_cons (decide_eq_true hd) (held_one (decide_eq_true hd2))) rfl (fun _ a5 w5 h6 => tail _ (grown_eq hro hnow (.inl ⟨hd, hd2, rfl⟩)) a5 w5 h6) fun hne => absurd rfl hne
          · exact h4.items (ovS_ok shT _ _) nilC mix (fun c _ => hooksOk_nil c) (fun z => s6gbG M (rowsL L) gr es L.length c most sw sw' now key z i b sp fo pa (rowsL out) out.length) (held_cons (decide_eq_true hd) (held_one (decide_eq_false hd2))) rfl (fun _ a5 w5 h6 => tail _ (grown_eq hro hnow (.inr ⟨fun h => hd2 h.2, rfl⟩)) a5 w5 h6) fun hne => absurd rfl hne
        · exact h4.items (ovS_ok shT _ _) nilC mix (fun c _ => hooksOk_nil c) (fun z => s6gcG M (rowsL L) gr es L.length c most sw sw' now key z i b sp fo pa (rowsL out) out.length) (held_one (decide_eq_false hd)) rfl (fun _ a5 w5 h6 => tail _ (grown_eq hro hnow (.inr ⟨fun h => hd h.1, rfl⟩)) a5 w5 h6) fun hne => absurd rfl hne
      · exact app6G hO ho (by omega) h5 fun a6 w6 h6 => ⟨rfl, h6⟩
    · refine h2.items (ovS_ok shT _ _) nilC mix (fun c _ => hooksOk_nil c) (fun z => s6kfalseG M (rowsL L) gr es L.length c most sw sw' now key z i b sp fo pa (rowsL out) out.length) (held_one (by rw [keqB_eq]; exact decide_eq_false hk)) rfl (fun _ a3 w3 h3 => ?_) fun hne => absurd rfl hne
      have e1 : a3.eval (.tmp 51) = .bool false := h3.eval (fun z => by kernel_rfl) rfl
      have h4 := h3.live (live' := L6b) (V' := v6 now sp fo pa L.length c i [.pointer (some ⟨6, 0, some 11⟩)]) (fun z => by kernel_rfl)
      have hst : refStep now key sp b (fo, pa, out) = (fo, pa, out ++ [b]) := by unfold refStep; rw [hsk, if_neg (by simp), if_neg hk]
      rw [hst]
      refine wpL_cons (R := fun a4 w4 => AtV M O Try.f6.ntmps L6b (v6 now sp fo pa L.length c i [.pointer (some ⟨6, 0, some 11⟩)]) (h6G (rowsL L) gr es L.length c most sw sw' key (rowsL out) out.length ++ [some ⟨bc b, false, 1, true⟩]) [] (fun _ _ => False) a4 w4) (wp_cond_false e1 (wp_skip ⟨rfl, h4⟩)) fun a4 w4 h5 => ?_
      exact app6G hO ho (by omega) h5 fun a6 w6 h6 => ⟨rfl, h6⟩
  cases sp with
  | false => exact h1.items (ovS_ok shT _ _) nilC mix (fun c _ => hooksOk_nil c) (fun z => s6allG M (rowsL L) gr es L.length c most sw sw' now key z i b fo pa (rowsL out) out.length) (fun x hx => by cases hx) rfl (fun _ a2 w2 h2 => rest rfl a2 w2 h2) fun hne => absurd rfl hne
  | true =>
    by_cases hid : IntKind.wrap .i64 (now - b.last) > 1000000000
    · refine h1.items (ovS_ok shT _ _) nilC mix (fun c _ => hooksOk_nil c) (fun z => s6skipG M (rowsL L) gr es L.length c most sw sw' now key z i b fo pa (rowsL out) out.length) (held_one (decide_eq_true hid)) rfl (fun he => by cases he) fun _ a2 w2 h2 => ?_
      have hst : refStep now key true b (fo, pa, out) = (fo, pa, out) := by unfold refStep idleB; rw [decide_eq_true hid, if_pos (by simp)]
      rw [hst]
      have h3 := h2.compact (keep := [0, 1, 2, 3, 4, 5]) (i0 := 1) (V' := v6 now true fo pa L.length c i []) (lo := (h6G (rowsL L) gr es L.length c most sw sw' key (rowsL out) out.length).filterMap id) (by kernel_rfl) (fun k hk => by rw [hO] at hk; simp at hk; subst hk; rfl)
      exact ⟨rfl, I6.of_ne ho h3⟩
    · exact h1.items (ovS_ok shT _ _) nilC mix (fun c _ => hooksOk_nil c) (fun z => s6keepG M (rowsL L) gr es L.length c most sw sw' now key z i b fo pa (rowsL out) out.length) (held_one (decide_eq_false hid)) rfl (fun _ a2 w2 h2 => rest (by unfold idleB; rw [decide_eq_false hid]; rfl) a2 w2 h2) fun hne => absurd rfl hne

end
end Go.Proofs.Ytfkdcpinajnbfaa
