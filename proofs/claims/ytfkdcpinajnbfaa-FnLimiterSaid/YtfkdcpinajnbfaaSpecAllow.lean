/- The reference's Allow: it answers what the plain words say.
   Conditions: a clock that fits its kind. -/
import Derived.Test.YtfkdcpinajnbfaaSpecWalk
open Go.Ab
set_option linter.unusedVariables false
set_option linter.unusedSimpArgs false
namespace Go.Proofs.Ytfkdcpinajnbfaa
set_option maxRecDepth 100000

def swp (now : Int) (sp : Bool) (L : List Bk) : List Bk := L.filter fun b => !(sp && idleB now b)
def refF (now : Int) (key : Key) (sp : Bool) (L : List Bk) : Bool × Bool × List Bk := L.foldl (fun s b => refStep now key sp b s) (false, false, [])

theorem hasK_cons (key : Key) (b : Bk) (L : List Bk) : hasK key (b :: L) = (decide (b.k = key) || hasK key L) := rfl
theorem passK_cons (now : Int) (key : Key) (b : Bk) (L : List Bk) : passK now key (b :: L) = ((decide (b.k = key) && decide (grownR now b ≥ 50000000)) || passK now key L) := rfl
theorem updL_cons (now : Int) (key : Key) (b : Bk) (L : List Bk) : updL now key (b :: L) = (if b.k = key then askB now b else b) :: updL now key L := rfl
theorem no_pass {now : Int} {key : Key} {L : List Bk} (h : hasK key L = false) : passK now key L = false := by
  induction L with
  | nil => rfl
  | cons b L ih =>
    rw [hasK_cons] at h
    simp only [Bool.or_eq_false_iff] at h
    rw [passK_cons, h.1, ih h.2]
    rfl
theorem no_upd {now : Int} {key : Key} {L : List Bk} (h : hasK key L = false) : updL now key L = L := by
  induction L with
  | nil => rfl
  | cons b L ih =>
    rw [hasK_cons] at h
    simp only [Bool.or_eq_false_iff, decide_eq_false_iff_not] at h
    rw [updL_cons, if_neg h.1, ih h.2]
theorem no_key {key : Key} {L M : List Bk} (h : ∀ b ∈ L, b.k ≠ key) (hm : ∀ b ∈ M, b ∈ L) : hasK key M = false := by
  rw [Bool.eq_false_iff]
  intro hh
  obtain ⟨b, hb, he⟩ := List.any_eq_true.1 hh
  exact h b (hm b hb) (of_decide_eq_true he)

theorem ref_fold (now : Int) (key : Key) (sp : Bool) : ∀ (L : List Bk), (L.Pairwise fun x y => x.k ≠ y.k) → ∀ fo pa out,
    L.foldl (fun s b => refStep now key sp b s) (fo, pa, out) = (fo || hasK key (swp now sp L), if hasK key (swp now sp L) then passK now key (swp now sp L) else pa, out ++ updL now key (swp now sp L)) := by
  intro L
  induction L with
  | nil => intro _ fo pa out; simp [swp, hasK, updL]
  | cons b L ih =>
    intro hp fo pa out
    obtain ⟨h1, h2⟩ := List.pairwise_cons.1 hp
    rw [List.foldl_cons]
    by_cases hs : (sp && idleB now b) = true
    · have e1 : refStep now key sp b (fo, pa, out) = (fo, pa, out) := by unfold refStep; rw [if_pos hs]
      have e2 : swp now sp (b :: L) = swp now sp L := by unfold swp; rw [List.filter_cons, hs]; rfl
      rw [e1, e2]
      exact ih h2 fo pa out
    · have e2 : swp now sp (b :: L) = b :: swp now sp L := by
        unfold swp; rw [List.filter_cons, Bool.eq_false_iff.2 hs]; rfl
      rw [e2, hasK_cons, passK_cons, updL_cons]
      by_cases hk : b.k = key
      · have e1 : refStep now key sp b (fo, pa, out) = (true, decide (grownR now b ≥ 50000000), out ++ [askB now b]) := by unfold refStep; rw [if_neg hs, if_pos hk]
        have hno : hasK key (swp now sp L) = false := no_key (L := L) (fun x hx he => h1 x hx (hk.trans he.symm)) fun x hx => (List.mem_filter.1 hx).1
        rw [e1, ih h2, hno, no_pass hno, if_pos hk, decide_eq_true hk]
        simp
      · have e1 : refStep now key sp b (fo, pa, out) = (fo, pa, out ++ [b]) := by unfold refStep; rw [if_neg hs, if_neg hk]
        rw [e1, ih h2, if_neg hk, decide_eq_false hk]
        simp
theorem refF_eq {now : Int} {key : Key} {sp : Bool} {L : List Bk} (h : L.Pairwise fun x y => x.k ≠ y.k) : refF now key sp L = (hasK key (swp now sp L), passK now key (swp now sp L), updL now key (swp now sp L)) := by
  unfold refF
  rw [ref_fold now key sp L h]
  cases hh : hasK key (swp now sp L) with
  | true => simp
  | false => rw [no_pass hh]; simp
theorem refF_len (now : Int) (key : Key) (sp : Bool) (L : List Bk) (i : Nat) (h : L.Pairwise fun x y => x.k ≠ y.k) : (refF now key sp (L.take i)).2.2.length ≤ i := by
  rw [refF_eq (h.sublist (List.take_sublist _ _))]
  simp only [updL, List.length_map]
  exact Nat.le_trans (List.length_filter_le _ _) (by rw [List.length_take]; omega)
theorem refF_snoc {now : Int} {key : Key} {sp : Bool} {L : List Bk} {i : Nat} {b : Bk} (hb : L[i]? = some b) : refF now key sp (L.take (i + 1)) = refStep now key sp b (refF now key sp (L.take i)) := by
  have hsn : L.take (i + 1) = L.take i ++ [b] := by rw [List.take_add_one, hb]; rfl
  unfold refF
  rw [hsn, List.foldl_append]
  rfl
theorem swp_eq (sw now : Int) (L : List Bk) : swp now (decide (IntKind.i64.wrap (now - sw) > 1000000000)) L = sweepB sw now L := by
  unfold swp sweepB
  by_cases h : IntKind.i64.wrap (now - sw) > 1000000000
  · rw [if_pos h, decide_eq_true h]; rfl
  · rw [if_neg h, decide_eq_false h]
    exact List.filter_eq_self.2 fun b _ => rfl

section
variable {M : Mem} {O : Org} {L : List Bk} {gr : Bool} {es c : Nat} {most sw sw' now : Int} {key : Key} {sp : Bool}
abbrev S6 (M : Mem) (O : Org) (L : List Bk) (gr : Bool) (es c : Nat) (most sw sw' now : Int) (key : Key) (sp : Bool) (i : Nat) (a : Go.Act) (w : World) : Prop :=
  I6 M O L gr es c most sw sw' now key sp i (refF now key sp (L.take i)).1 (refF now key sp (L.take i)).2.1 (refF now key sp (L.take i)).2.2 a w

theorem next6 (hnow : now ≤ 9223372036854775807) (hn : L.length ≤ 4096) {i : Nat} (hi : i < L.length) {fo pa : Bool} {out : List Bk} {a : Go.Act} {w : World} (h : I6 M O L gr es c most sw sw' now key sp i fo pa out a w) {Q : Exit → Go.Act → World → Prop}
    (k1 : ∀ a1 w1, I6 M O L gr es c most sw sw' now key sp (i + 1 : Nat) fo pa out a1 w1 → Q .normal a1 w1) : wpL Try.prog Q [itemN b6 3] a w := by
  refine wpL_end ?_
  show wpL Try.prog Q ([itemN b6 3] ++ []) a w
  by_cases ho : out = []
  · subst ho
    refine h.nil.items (ovS_ok shT _ _) nilC mix (fun c _ => hooksOk_nil c) (fun z => s6iN M (rowsL L) gr es L.length c most sw sw' now key z i sp fo pa) (fun x hx => by cases hx) rfl (fun _ a1 w1 h1 => ?_) fun hne => absurd rfl hne
    rw [wrap_next hi (by omega)] at h1
    exact k1 a1 w1 (I6.of_nil h1)
  · refine (h.ne ho).items (ovS_ok shT _ _) nilC mix (fun c _ => hooksOk_nil c) (fun z => s6iG M (rowsL L) gr es L.length c most sw sw' now key z i sp fo pa (rowsL out) out.length) (fun x hx => by cases hx) rfl (fun _ a1 w1 h1 => ?_) fun hne => absurd rfl hne
    rw [wrap_next hi (by omega)] at h1
    exact k1 a1 w1 (I6.of_ne ho h1)

theorem turn6 (hO : O.h = [some ⟨rowsL L, gr, es, true⟩]) (hnow : now ≤ 9223372036854775807) (hn : L.length ≤ 4096) (hrows : RowsOk now L) {i : Nat} (hi : i < L.length) {a : Go.Act} {w : World} (h : S6 M O L gr es c most sw sw' now key sp i a w) :
    b6.wp Try.prog (fun e a1 w1 => e = .normal ∧ S6 M O L gr es c most sw sw' now key sp (i + 1) a1 w1) a w := by
  obtain ⟨b, hb⟩ : ∃ b, L[i]? = some b := ⟨_, List.getElem?_eq_getElem hi⟩
  have hro : RowOk now b := hrows.rows b (List.mem_of_getElem? hb)
  have hlen := refF_len now key sp L i hrows.apart
  unfold S6 at h ⊢
  rw [refF_snoc hb]
  generalize refF now key sp (L.take i) = s at h hlen ⊢
  obtain ⟨fo, pa, out⟩ := s
  refine wp_items b6 ?_
  rw [itemsB6]
  show wpL Try.prog _ ([itemN b6 0, itemN b6 1] ++ [.block 1 d6, itemN b6 3]) a w
  by_cases ho : out = []
  · subst ho
    refine h.nil.items (ovS_ok shT _ _) nilC mix (fun c _ => hooksOk_nil c) (fun z => s6tN M (rowsL L) gr es L.length c most sw sw' now key z i sp fo pa) (held_one (decide_eq_true (by omega))) rfl (fun _ a1 w1 h1 => ?_) fun hne => absurd rfl hne
    refine wpL_cons (wp_block (round6N hO hnow hn hb hro rfl hlen h1)) fun a2 w2 h2 => ?_
    exact next6 hnow hn hi h2 fun a3 w3 h3 => ⟨rfl, h3⟩
  · refine (h.ne ho).items (ovS_ok shT _ _) nilC mix (fun c _ => hooksOk_nil c) (fun z => s6tG M (rowsL L) gr es L.length c most sw sw' now key z i sp fo pa (rowsL out) out.length) (held_one (decide_eq_true (by omega))) rfl (fun _ a1 w1 h1 => ?_) fun hne => absurd rfl hne
    refine wpL_cons (wp_block (round6G hO hnow hn hb hro ho hlen h1)) fun a2 w2 h2 => ?_
    exact next6 hnow hn hi h2 fun a3 w3 h3 => ⟨rfl, h3⟩

theorem end6 (hO : O.h = [some ⟨rowsL L, gr, es, true⟩]) {i : Int} {fo pa : Bool} {out : List Bk} (ho : out ≠ []) {a : Go.Act} {w : World} (h : I6 M O L gr es c most sw sw' now key sp i fo pa out a w) :
    wpL Try.prog (Done Try.prog M O Try.f6 1 fun v1 o1 n1 _ => v1 = .tuple #[.agg #[.int .i64 most, .int .i64 sw', .slice (some ⟨1, 0, some (out.length * 11)⟩) out.length out.length], .bool pa] ∧ o1 = [⟨rowsL L, gr, es, true⟩] ∧ n1 = [⟨rowsL out, true, 11, true⟩]) [itemN c6 13, itemN c6 14] a w := by
  refine wpL_end ?_
  show wpL Try.prog _ ([itemN c6 13, itemN c6 14] ++ []) a w
  refine (h.ne ho).items (ovS_ok shT _ _) nilC mix (fun c _ => hooksOk_nil c) (fun z => s6eG M (rowsL L) gr es L.length c most sw sw' now key z i sp fo pa (rowsL out) out.length) (fun x hx => by cases hx) rfl (fun he => by cases he) fun _ a1 w1 h1 => ?_
  obtain ⟨z, h1⟩ := h1
  exact ⟨.inr rfl, _, _, _, _, [⟨rowsL L, gr, es, true⟩], [⟨rowsL out, true, 11, true⟩], h1, by kernel_rfl, rfl, rfl, rfl⟩

theorem room_small {n : Nat} (h : n ≤ 4097) : room n 32 = true := by
  simp [room]; omega

/-- Behind the loop. -/
theorem rest6 (hO : O.h = [some ⟨rowsL L, gr, es, true⟩]) (hm1 : 1 ≤ most) (hm2 : most ≤ 4096) {i : Int} {fo pa : Bool} {out : List Bk} (hpa : fo = false → pa = false) (hfo : fo = true → out ≠ []) (hlen : out.length ≤ 4096) {a : Go.Act} {w : World} (h : I6 M O L gr es c most sw sw' now key sp i fo pa out a w) :
    wpL Try.prog (Done Try.prog M O Try.f6 1 fun v1 o1 n1 _ => ∃ r : Bool × List Bk, r = (if fo then (pa, out) else if (out.length : Int) < most then (true, out ++ [⟨key, 200000000, now⟩]) else (false, out)) ∧ v1 = .tuple #[.agg #[.int .i64 most, .int .i64 sw', .slice (some ⟨1, 0, some (r.2.length * 11)⟩) r.2.length r.2.length], .bool r.1] ∧ o1 = [⟨rowsL L, gr, es, true⟩] ∧ n1 = [⟨rowsL r.2, true, 11, true⟩]) [itemN c6 11, itemN c6 12, itemN c6 13, itemN c6 14] a w := by
  have fin : ∀ (pa' : Bool) (out' : List Bk), (pa', out') = (if fo then (pa, out) else if (out.length : Int) < most then (true, out ++ [⟨key, 200000000, now⟩]) else (false, out)) → out' ≠ [] → ∀ a1 w1 fo', I6 M O L gr es c most sw sw' now key sp i fo' pa' out' a1 w1 →
      wpL Try.prog (Done Try.prog M O Try.f6 1 fun v1 o1 n1 _ => ∃ r : Bool × List Bk, r = (if fo then (pa, out) else if (out.length : Int) < most then (true, out ++ [⟨key, 200000000, now⟩]) else (false, out)) ∧ v1 = .tuple #[.agg #[.int .i64 most, .int .i64 sw', .slice (some ⟨1, 0, some (r.2.length * 11)⟩) r.2.length r.2.length], .bool r.1] ∧ o1 = [⟨rowsL L, gr, es, true⟩] ∧ n1 = [⟨rowsL r.2, true, 11, true⟩]) [itemN c6 13, itemN c6 14] a1 w1 := by
    intro pa' out' he hne a1 w1 fo' h1
    refine wpL_mono ?_ (end6 hO hne h1)
    rintro e a2 w2 ⟨he2, s, nm, g, v, os', ns, hat, hf, e1, e2, e3⟩
    exact ⟨he2, s, nm, g, v, os', ns, hat, hf, (pa', out'), he, e1, e2, e3⟩
  show wpL Try.prog _ ([itemN c6 11, itemN c6 12] ++ [itemN c6 13, itemN c6 14]) a w
  by_cases ho : out = []
  · subst ho
    have hfo' : fo = false := by cases fo with
      | false => rfl
      | true => exact absurd rfl (hfo rfl)
    subst hfo'
    refine h.nil.items (ovS_ok shT _ _) nilC mix (fun c _ => hooksOk_nil c) (fun z => s6nN M (rowsL L) gr es L.length c most sw sw' now key z i sp pa) (held_one (decide_eq_true (by omega))) rfl (fun _ a1 w1 h1 => ?_) fun hne => absurd rfl hne
    have h2 := h1.compact (keep := [0, 1, 2, 3, 4, 6]) (i0 := 1) (V' := v6 now sp false true L.length c i []) (lo := (h6G (rowsL L) gr es L.length c most sw sw' key (bc ⟨key, 200000000, now⟩) 1).filterMap id) (by kernel_rfl) (fun k hk => by rw [hO] at hk; simp at hk; subst hk; rfl)
    refine fin true [⟨key, 200000000, now⟩] ?_ (by simp) a1 w1 false (I6.of_ne (by simp) ?_)
    · rw [if_neg (by simp), if_pos (by simp; omega)]; rfl
    · have e1 : rowsL [(⟨key, 200000000, now⟩ : Bk)] = bc ⟨key, 200000000, now⟩ := by simp [rowsL]
      rw [e1]; exact h2
  · have hD : (rowsL out).length = out.length * 11 := rowsL_length out
    cases fo with
    | true =>
      refine (h.ne ho).items (ovS_ok shT _ _) nilC mix (fun c _ => hooksOk_nil c) (fun z => s6fG M (rowsL L) gr es L.length c most sw sw' now key z i sp pa (rowsL out) out.length) (fun x hx => by cases hx) rfl (fun _ a1 w1 h1 => ?_) fun hne => absurd rfl hne
      exact fin pa out (by rw [if_pos rfl]) ho a1 w1 true (I6.of_ne ho h1)
    | false =>
      obtain rfl := hpa rfl
      by_cases hl : (out.length : Int) < most
      · refine (h.ne ho).items (ovX_ok _ _) nilC mix (fun c _ => hooksOk_nil c) (fun z => s6nG M (rowsL L) gr es L.length c most sw sw' now key z i sp false (rowsL out) out.length) (held_cons (decide_eq_true hl) (held_one (by simp [hD, room_small (n := out.length + 1) (by omega)]))) rfl (fun _ a1 w1 h1 => ?_) fun hne => absurd rfl hne
        have h2 := h1.compact (keep := [0, 1, 2, 3, 4, 5]) (i0 := 1) (V' := v6 now sp false true L.length c i []) (lo := (h6G (rowsL L) gr es L.length c most sw sw' key ((rowsL out).take (out.length * 11) ++ bc ⟨key, 200000000, now⟩) (out.length + 1)).filterMap id) (by kernel_rfl) (fun k hk => by rw [hO] at hk; simp at hk; subst hk; rfl)
        rw [rows_snoc] at h2
        refine fin true (out ++ [⟨key, 200000000, now⟩]) ?_ (by simp) a1 w1 false (I6.of_ne (by simp) ?_)
        · rw [if_neg (by simp), if_pos hl]
        · have e1 : (out ++ [(⟨key, 200000000, now⟩ : Bk)]).length = out.length + 1 := by simp
          rw [e1]; exact h2
      · refine (h.ne ho).items (ovS_ok shT _ _) nilC mix (fun c _ => hooksOk_nil c) (fun z => s6mG M (rowsL L) gr es L.length c most sw sw' now key z i sp false (rowsL out) out.length) (held_one (decide_eq_false hl)) rfl (fun _ a1 w1 h1 => ?_) fun hne => absurd rfl hne
        exact fin false out (by rw [if_neg (by simp), if_neg hl]) ho a1 w1 false (I6.of_ne ho h1)

end

/-- What the reference answers on a valid limiter. -/
theorem specAllow {M : Mem} {L : List Bk} {gr : Bool} {es c : Nat} {most sw now : Int} {key : Key} (hnow : now ≤ 9223372036854775807) (hv : ValidL most sw now L) :
    ACalls Try.prog M 6 [.agg #[.int .i64 most, .int .i64 sw, slR L.length c], kv key, .int .i64 now] [⟨rowsL L, gr, es, true⟩]
      (.tuple #[.agg #[.int .i64 most, .int .i64 (swB sw now), .slice (some ⟨1, 0, some ((allowL most sw now key L).2.length * 11)⟩) (allowL most sw now key L).2.length (allowL most sw now key L).2.length], .bool (allowL most sw now key L).1])
      [⟨rowsL L, gr, es, true⟩] [⟨rowsL (allowL most sw now key L).2, true, 11, true⟩] := by
  obtain ⟨hh, hrows⟩ := hv
  have hn : L.length ≤ 4096 := by have := hh.h2; have := hh.h3; omega
  refine acalls_of_at Try.func6 body6 rfl fun O a w hO hat => ?_
  have hO' : O.h = [some ⟨rowsL L, gr, es, true⟩] := hO
  have hpin : Held [(@decide (L.length * 11 = L.length * 11 ∧ ∃ L', rowsL L = rowsL L' ∧ L.length = L'.length ∧ (ValidL most sw now L' ↔ true = true)) (Classical.propDecidable _), true)] := held_one (@decide_eq_true _ (Classical.propDecidable _) ⟨rfl, L, rfl, rfl, iff_of_true ⟨hh, hrows⟩ rfl⟩)
  refine wp_items c6 ?_
  rw [items6]
  show wpL Try.prog _ ([itemN c6 0, itemN c6 1, itemN c6 2, itemN c6 3, itemN c6 4, itemN c6 5, itemN c6 6, itemN c6 7, itemN c6 8, itemN c6 9] ++ [.block 0 (.loop b6), itemN c6 11, itemN c6 12, itemN c6 13, itemN c6 14]) a w
  have hs : ∀ s ∈ [valSum M true], s.SoundC Try.prog M := fun s hs => by
    rw [List.mem_singleton.1 hs]; exact valT M true
  have go : ∀ sp sw', sp = decide (IntKind.i64.wrap (now - sw) > 1000000000) → sw' = swB sw now → ∀ a1 w1, AtV M O Try.f6.ntmps L6 (v6 now sp false false L.length c 0 []) (h6N (rowsL L) gr es L.length c most sw sw' key) [] (fun _ _ => False) a1 w1 →
      wpL Try.prog (Done Try.prog M O Try.f6 1 fun v1 o1 n1 _ => v1 = (.tuple #[.agg #[.int .i64 most, .int .i64 (swB sw now), .slice (some ⟨1, 0, some ((allowL most sw now key L).2.length * 11)⟩) (allowL most sw now key L).2.length (allowL most sw now key L).2.length], .bool (allowL most sw now key L).1]) ∧ o1 = [⟨rowsL L, gr, es, true⟩] ∧ n1 = [⟨rowsL (allowL most sw now key L).2, true, 11, true⟩]) [.block 0 (.loop b6), itemN c6 11, itemN c6 12, itemN c6 13, itemN c6 14] a1 w1 := by
    intro sp sw' hsp hsw a1 w1 h1
    refine wpL_cons (R := S6 M O L gr es c most sw sw' now key sp L.length) (wp_block (wp_loop_idx (S6 M O L gr es c most sw sw' now key sp) L.length (I6.of_nil h1) (fun i a w hi h => ?_) fun a w h => ?_)) fun a2 w2 h2 => ?_
    · exact turn6 hO' hnow hn hrows hi h
    · refine wp_items b6 ?_
      rw [itemsB6]
      show wpL Try.prog _ ([itemN b6 0, itemN b6 1] ++ [.block 1 d6, itemN b6 3]) a w
      unfold S6 at h ⊢
      generalize refF now key sp (L.take L.length) = s at h ⊢
      obtain ⟨fo, pa, out⟩ := s
      by_cases ho : out = []
      · subst ho
        exact h.nil.items (ovS_ok shT _ _) nilC mix (fun c _ => hooksOk_nil c) (fun z => s6xN M (rowsL L) gr es L.length c most sw sw' now key z L.length sp fo pa) (held_one (by simp)) rfl (fun he => by cases he) fun _ a2 w2 h2 => ⟨by simp [AExit.to], rfl, I6.of_nil h2⟩
      · exact (h.ne ho).items (ovS_ok shT _ _) nilC mix (fun c _ => hooksOk_nil c) (fun z => s6xG M (rowsL L) gr es L.length c most sw sw' now key z L.length sp fo pa (rowsL out) out.length) (held_one (by simp)) rfl (fun he => by cases he) fun _ a2 w2 h2 => ⟨by simp [AExit.to], rfl, I6.of_ne ho h2⟩
    · unfold S6 at h2
      rw [List.take_length, refF_eq hrows.apart, hsp, swp_eq] at h2
      have hl2 : (sweepB sw now L).length ≤ L.length := by
        unfold sweepB
        split
        · exact List.length_filter_le _ _
        · exact Nat.le_refl _
      have hul : (updL now key (sweepB sw now L)).length = (sweepB sw now L).length := by simp [updL]
      refine wpL_mono ?_ (rest6 hO' hh.h1 hh.h2 (fun h => no_pass h) (fun h => ?_) (by rw [hul]; omega) h2)
      · rintro e a3 w3 ⟨he2, s, nm, g, v, os', ns, hat, hf, r, hr, e1, e2, e3⟩
        have hr2 : r = allowL most sw now key L := by
          rw [hr]
          unfold allowL askL
          by_cases hk : hasK key (sweepB sw now L) = true
          · rw [if_pos hk, if_pos hk]
          · have hk' : hasK key (sweepB sw now L) = false := by simpa using hk
            rw [if_neg hk, if_neg hk, no_upd hk']
        subst hsw
        rw [← hr2]
        exact ⟨he2, s, nm, g, v, os', ns, hat, hf, e1, e2, e3⟩
      · intro hnil
        have : (sweepB sw now L) = [] := List.map_eq_nil_iff.1 hnil
        rw [this] at h
        cases h
  by_cases hd : IntKind.i64.wrap (now - sw) > 1000000000
  · refine hat.items (ovS_ok shT _ _) hs mix (fun c _ => hooksOk_nil c) (s6htrue M (rowsL L) gr es L.length c most sw now key) (held_two hpin (held_one (decide_eq_true hd))) rfl (fun _ a1 w1 h1 => ?_) fun hne => absurd rfl hne
    exact go true now (decide_eq_true hd).symm (by unfold swB; rw [if_pos hd]) a1 w1 h1
  · refine hat.items (ovS_ok shT _ _) hs mix (fun c _ => hooksOk_nil c) (s6hfalse M (rowsL L) gr es L.length c most sw now key) (held_two hpin (held_one (decide_eq_false hd))) rfl (fun _ a1 w1 h1 => ?_) fun hne => absurd rfl hne
    exact go false sw (decide_eq_false hd).symm (by unfold swB; rw [if_neg hd]) a1 w1 h1

/-- What it answers on another. -/
theorem specAllowBad {M : Mem} {L : List Bk} {gr : Bool} {es c : Nat} {most sw now : Int} {key : Key} (hv : ¬ ValidL most sw now L) :
    ACalls Try.prog M 6 [.agg #[.int .i64 most, .int .i64 sw, slR L.length c], kv key, .int .i64 now] [⟨rowsL L, gr, es, true⟩]
      (.tuple #[.agg #[.int .i64 0, .int .i64 0, .slice none 0 0], .bool false]) [⟨rowsL L, gr, es, true⟩] [] := by
  refine acalls_of_at Try.func6 body6 rfl fun O a w hO hat => ?_
  have hO' : O.h = [some ⟨rowsL L, gr, es, true⟩] := hO
  have hpin : Held [(@decide (L.length * 11 = L.length * 11 ∧ ∃ L', rowsL L = rowsL L' ∧ L.length = L'.length ∧ (ValidL most sw now L' ↔ false = true)) (Classical.propDecidable _), true)] := held_one (@decide_eq_true _ (Classical.propDecidable _) ⟨rfl, L, rfl, rfl, iff_of_false hv (by simp)⟩)
  have hs : ∀ s ∈ [valSum M false], s.SoundC Try.prog M := fun s hs => by
    rw [List.mem_singleton.1 hs]; exact valT M false
  refine wp_items c6 ?_
  rw [items6]
  show wpL Try.prog _ ([itemN c6 0, itemN c6 1, itemN c6 2] ++ _) a w
  refine hat.items (ovS_ok shT _ _) hs mix (fun c _ => hooksOk_nil c) (s6bad M (rowsL L) gr es L.length c most sw now key) hpin rfl (fun he => by cases he) fun _ a1 w1 h1 => ?_
  obtain ⟨z, h1⟩ := h1
  exact ⟨.inr rfl, _, _, _, _, [⟨rowsL L, gr, es, true⟩], [], h1, by kernel_rfl, rfl, rfl, rfl⟩
end Go.Proofs.Ytfkdcpinajnbfaa
