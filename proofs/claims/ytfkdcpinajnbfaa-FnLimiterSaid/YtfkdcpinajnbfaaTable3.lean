/- The method table of the limiter: what it hands back.
   Conditions: keys of bytes. -/
import Derived.Test.YtfkdcpinajnbfaaTable2
open Go.Ab
set_option linter.unusedVariables false
set_option linter.unusedSimpArgs false
namespace Go.Proofs.Ytfkdcpinajnbfaa
set_option maxRecDepth 100000

/-- What the method hands back. -/
def TabR (most sw now : Int) (L : List Bk) (v : Value) (g : Gho) : Prop :=
  (v = .map none ∧ ¬ (HeadOk most sw now L.length ∧ RowsOk now L)) ∨
  ∃ mb Ls, v = .map (some mb) ∧ HeadOk most sw now L.length ∧ RowsOk now L ∧ Ls.map (·.b) = L ∧ Ls.map (·.num) = List.range L.length ∧ MapOk mb L.length Ls ∧ g = gMap mb L.length Ls

theorem region33 : drawOf (itemN c19 3) = false := by kernel_rfl
theorem range33 : List.range (opsOf (itemN c19 3)).size = [0, 1, 2] ++ (3 :: ([4] ++ [])) := by kernel_rfl
theorem op33 : (opsOf (itemN c19 3))[3]? = some (opAt (itemN c19 3) 3) := by kernel_rfl
theorem op33g : (opAt (itemN c19 3) 3).guard = none := by kernel_rfl
theorem op33d : (opAt (itemN c19 3) 3).dst = some 42 := by kernel_rfl
theorem op33o : (opAt (itemN c19 3) 3).op = .makeMap 51 (some (.tmp 41)) := by kernel_rfl

theorem range_ctr {k n : Nat} (h : k < n) (hn : n ≤ 4096) : IntKind.wrap .i64 ((k : Int) + 1) = ((k + 1 : Nat) : Int) := by rw [Ab.wrap_i64 (by omega) (by omega)]; omega

section
variable {M : Mem} {O : Org} {L : List Bk} {gr : Bool} {es c mb : Nat} {most sw now : Int}

theorem take_snoc {L : List Bk} {k : Nat} {b : Bk} (h : L[k]? = some b) : L.take (k + 1) = L.take k ++ [b] := by
  rw [List.take_add_one, h]; rfl

/-- A round over a right bucket. -/
theorem round19 (hO : O.h = [some ⟨rowsL L, gr, es, true⟩]) (hk : ∀ b ∈ L, KeyOk b.k) (hn : L.length ≤ 4096) {k : Nat} (hkn : k < L.length) (hrow : RowsOk now (L.take (k + 1))) {Ls : List Ent} {a : Go.Act} {w : World} (I : Inv19 M O L gr es c mb most sw now k Ls a w) :
    b19.wp Try.prog (fun e a1 w1 => e = .normal ∧ ∃ Ls', Inv19 M O L gr es c mb most sw now (k + 1) Ls' a1 w1) a w := by
  obtain ⟨b, hb⟩ : ∃ b, L[k]? = some b := ⟨_, List.getElem?_eq_getElem hkn⟩
  have hbk := hk b (List.mem_of_getElem? hb)
  have hlen := rowsL_length L
  refine wp_items b19 ?_
  rw [itemsB19]
  show wpL Try.prog _ ([itemN b19 0, itemN b19 1] ++ [.block 1 d19, itemN b19 3]) a w
  refine I.at_.items (ovS_ok shT _ _) nilC mix (fun c _ => hooksOk_nil c) (fun z => tkS M (rowsL L) gr es L.length c mb most sw now z k) (held_one (by simpa using hkn)) rfl (fun _ a1 w1 h1 => ?_) fun hne => absurd rfl hne
  refine wpL_cons (R := fun a1 w1 => ∃ blk, MapOk mb (k + 1) (Ls ++ [⟨b, k, blk⟩]) ∧ AtV M O N19 [1, 2, 4, 5, 44, 45, 46] (wS mb now [slR L.length c, .int .i64 L.length, .int .i64 k]) (hS (rowsL L) gr es L.length c most sw) [] (gMap mb (k + 1) (Ls ++ [⟨b, k, blk⟩])) a1 w1) (wp_block_items ?_) ?_
  · rw [itemsD19]
    show wpL Try.prog _ ([itemN d19 0] ++ [itemN d19 1, itemN d19 2, itemN d19 3]) a1 w1
    have hroww : 0 + (k : Int).toNat * 11 = 0 + k * 11 := by simp
    refine h1.items (ovS_ok shT _ _) nilC mix (fun c _ => hooksOk_nil c) (fun z => ldS M (rowsL L) gr es L.length c mb most sw now z k) (held_cons (by rw [inB_iff]; omega) (held_one ?_)) rfl (fun _ a2 w2 h2 => ?_) fun hne => absurd rfl hne
    · rw [hroww, shp_rows hb, hlen]
      have := shp_row_len hb
      simp only [Bool.and_true, Bool.and_eq_true, decide_eq_true_eq]
      exact ⟨trivial, this⟩
    · rw [hroww, bkAt_rows hb] at h2
      have hmem : ∀ e ∈ Ls, e.b.k ≠ b.k := fun e he => by
        have := hrow.apart
        rw [take_snoc hb] at this
        refine (List.pairwise_append.1 this).2.2 e.b ?_ b (by simp)
        rw [← I.bs]; exact List.mem_map.2 ⟨e, he, rfl⟩
      have hro : RowOk now b := hrow.rows b (by rw [take_snoc hb]; simp)
      refine look19 I.ok hbk h2 (fun hne _ a3 w3 h3 => ?_) (fun hbad => ?_)
      · exact add19 I.ok hbk hne hO h3 fun blk hok a4 w4 h4 => ⟨rfl, blk, hok, h4⟩
      · rcases hbad with hbad | ⟨e, he, hek⟩
        · exact absurd hro hbad
        · exact absurd hek (hmem e he)
  · rintro a2 w2 ⟨blk, hok, h2⟩
    show wpL Try.prog _ ([itemN b19 3] ++ []) a2 w2
    refine h2.items (ovS_ok shT _ _) nilC mix (fun c _ => hooksOk_nil c) (fun z => incS M (rowsL L) gr es L.length c mb most sw now z k) (fun x hx => by cases hx) rfl (fun _ a3 w3 h3 => ?_) fun hne => absurd rfl hne
    rw [range_ctr hkn hn] at h3
    exact ⟨rfl, _, ⟨by rw [List.map_append, I.bs, take_snoc hb]; rfl, by rw [List.map_append, I.nums, List.range_succ]; rfl, hok, h3⟩⟩

/-- A round over a wrong bucket. -/
theorem wrong19 (hk : ∀ b ∈ L, KeyOk b.k) {k : Nat} (hkn : k < L.length) (hgood : RowsOk now (L.take k)) (hrow : ¬ RowsOk now (L.take (k + 1))) {Ls : List Ent} {a : Go.Act} {w : World} (I : Inv19 M O L gr es c mb most sw now k Ls a w) :
    b19.wp Try.prog (fun e a1 w1 => e = .ret ∧ ∃ b g, AtV M O N19 [1, 2, 4, 5, 44, 45, 46, 6, 7] (xS L.length c mb now k []) (hB (rowsL L) gr es L.length c most sw b) [] g a1 w1) a w := by
  obtain ⟨b, hb⟩ : ∃ b, L[k]? = some b := ⟨_, List.getElem?_eq_getElem hkn⟩
  have hbk := hk b (List.mem_of_getElem? hb)
  have hlen := rowsL_length L
  refine wp_items b19 ?_
  rw [itemsB19]
  show wpL Try.prog _ ([itemN b19 0, itemN b19 1] ++ [.block 1 d19, itemN b19 3]) a w
  refine I.at_.items (ovS_ok shT _ _) nilC mix (fun c _ => hooksOk_nil c) (fun z => tkS M (rowsL L) gr es L.length c mb most sw now z k) (held_one (by simpa using hkn)) rfl (fun _ a1 w1 h1 => ?_) fun hne => absurd rfl hne
  refine wp_then (e0 := .ret) (R := fun a1 w1 => ∃ b g, AtV M O N19 [1, 2, 4, 5, 44, 45, 46, 6, 7] (xS L.length c mb now k []) (hB (rowsL L) gr es L.length c most sw b) [] g a1 w1) (wp_block_items ?_) (fun he => by cases he) fun _ a2 w2 h2 => ⟨rfl, h2⟩
  rw [itemsD19]
  show wpL Try.prog _ ([itemN d19 0] ++ [itemN d19 1, itemN d19 2, itemN d19 3]) a1 w1
  have hroww : 0 + (k : Int).toNat * 11 = 0 + k * 11 := by simp
  refine h1.items (ovS_ok shT _ _) nilC mix (fun c _ => hooksOk_nil c) (fun z => ldS M (rowsL L) gr es L.length c mb most sw now z k) (held_cons (by rw [inB_iff]; omega) (held_one ?_)) rfl (fun _ a2 w2 h2 => ?_) fun hne => absurd rfl hne
  · rw [hroww, shp_rows hb, hlen]
    have := shp_row_len hb
    simp only [Bool.and_true, Bool.and_eq_true, decide_eq_true_eq]
    exact ⟨trivial, this⟩
  · rw [hroww, bkAt_rows hb] at h2
    refine look19 I.ok hbk h2 (fun hne hro => ?_) (fun _ a3 w3 h3 => ⟨rfl, b, _, h3⟩)
    refine absurd ⟨fun x hx => ?_, ?_⟩ hrow
    · rw [take_snoc hb] at hx
      rcases List.mem_append.1 hx with hx | hx
      · exact hgood.rows x hx
      · simp at hx; subst hx; exact hro
    · rw [take_snoc hb]
      refine List.pairwise_append.2 ⟨hgood.apart, by simp, fun x hx y hy => ?_⟩
      simp at hy; subst hy
      rw [← I.bs] at hx
      obtain ⟨e, he, rfl⟩ := List.mem_map.1 hx
      exact hne e he

/-- The last test. -/
theorem leave19 {Ls : List Ent} {a : Go.Act} {w : World} (I : Inv19 M O L gr es c mb most sw now L.length Ls a w) :
    b19.wp Try.prog (fun e a1 w1 => e = .exit 0 ∧ Inv19 M O L gr es c mb most sw now L.length Ls a1 w1) a w := by
  refine wp_items b19 ?_
  rw [itemsB19]
  show wpL Try.prog _ ([itemN b19 0, itemN b19 1] ++ [.block 1 d19, itemN b19 3]) a w
  exact I.at_.items (ovS_ok shT _ _) nilC mix (fun c _ => hooksOk_nil c) (fun z => exS M (rowsL L) gr es L.length c mb most sw now z L.length) (held_one (by simp)) rfl (fun he => by cases he) fun _ a1 w1 h1 => ⟨rfl, I.bs, I.nums, I.ok, h1⟩
end

/-- The method's result from here. -/
abbrev post19 (M : Mem) (O : Org) (most sw now : Int) (L : List Bk) (os : List AObj) := Done Try.prog M O Try.f19 os.length fun v os' ns g => os' = os ∧ ns = [] ∧ TabR most sw now L v g

theorem tableS {M : Mem} {L : List Bk} {gr : Bool} {es c : Nat} {most sw now : Int} (hk : ∀ b ∈ L, KeyOk b.k) :
    ACallsG Try.prog M 19 [.agg #[.int .i64 most, .int .i64 sw, slR L.length c], .int .i64 now] [⟨rowsL L, gr, es, true⟩] fun v os' ns g => os' = [⟨rowsL L, gr, es, true⟩] ∧ ns = [] ∧ TabR most sw now L v g := by
  refine acallsG_of_at Try.func19 body19 fun O a w hO hat => ?_
  have hO' : O.h = [some ⟨rowsL L, gr, es, true⟩] := hO
  refine wp_items c19 ?_
  rw [items19]
  show wpL Try.prog _ ([itemN c19 0, itemN c19 1, itemN c19 2] ++ [itemN c19 3, itemN c19 4, .block 0 (.loop b19), itemN c19 6, itemN c19 7]) a w
  rcases head_cases most sw now L.length with hh | ⟨j, hj, hbad⟩
  rotate_left
  · refine hat.items (ovS_ok shT _ _) nilC mix (fun c _ => hooksOk_nil c) (badS M (rowsL L) gr es L.length c most sw now j hj) hbad rfl (fun he => by cases he) fun _ a1 w1 h1 => ?_
    obtain ⟨z, h1⟩ := h1
    exact ⟨.inr rfl, _, _, _, .map none, [⟨rowsL L, gr, es, true⟩], [], h1, by kernel_rfl, rfl, rfl, .inl ⟨rfl, fun h => bad_not hj hbad h.1⟩⟩
  have hn : L.length ≤ 4096 := by have := hh.h2; have := hh.h3; omega
  refine hat.items (ovS_ok shT _ _) nilC mix (fun c _ => hooksOk_nil c) (headS M (rowsL L) gr es L.length c most sw now) (head_held hh) rfl (fun _ a1 w1 h1 => ?_) fun hne => absurd rfl hne
  show (itemN c19 3).wp Try.prog (Exit.then (wpL Try.prog _ [itemN c19 4, .block 0 (.loop b19), itemN c19 6, itemN c19 7]) _) a1 w1
  refine wp_rgn region33 range33 ?_
  refine h1.ops (K := fnsC []) (cl := fun l => l) (fnsC_sound nilC) (fun z => lenS M (rowsL L) gr es L.length c most sw now z) rfl fun a2 w2 h2 => ?_
  have e1 : a2.eval (.tmp 41) = .int .i64 L.length := h2.eval (fun z => by kernel_rfl) rfl
  refine wpOps_value op33 op33g (ex_makeMap op33o (by simp only [Option.map_some]; rw [e1]; exact run_make51 w2)) ?_
  rw [op33d]
  have h3 := (h2.alloc (g' := gMap w2.heap.size 0 []) (.map #[] 0) (fun b x hx => by
    rcases hx with ⟨h, h'⟩ | ⟨e, he, _⟩
    · exact .inr ⟨h, h'⟩
    · cases he)).put (some 42) (v := .map (some w2.heap.size)) rfl (fun z => putS L.length now z _)
  refine h3.ops (K := fnsC []) (cl := fun l => l) (fnsC_sound nilC) (fun z => asgS M (rowsL L) gr es L.length c w2.heap.size most sw now z) rfl fun a3 w3 h4 => ?_
  show wpL Try.prog _ ([itemN c19 4] ++ [.block 0 (.loop b19), itemN c19 6, itemN c19 7]) a3 w3
  refine h4.items (ovS_ok shT _ _) nilC mix (fun c _ => hooksOk_nil c) (fun z => rngS M (rowsL L) gr es L.length c w2.heap.size most sw now z) (fun x hx => by cases hx) rfl (fun _ a4 w4 h5 => ?_) fun hne => absurd rfl hne
  have I0 : Inv19 M O L gr es c w2.heap.size most sw now 0 [] a4 w4 := ⟨rfl, rfl, ⟨fun e he => (by cases he), List.Pairwise.nil, by simp, List.Pairwise.nil, fun e he => (by cases he)⟩, h5⟩
  rcases first_bad now L L.length with hrows | ⟨k0, hk0, hgood, hbad⟩
  · rw [List.take_length] at hrows
    refine wpL_cons (R := fun a1 w1 => ∃ Ls, Inv19 M O L gr es c w2.heap.size most sw now L.length Ls a1 w1) (wp_block (wp_loop_idx (fun k a1 w1 => ∃ Ls, Inv19 M O L gr es c w2.heap.size most sw now k Ls a1 w1) L.length ⟨[], I0⟩ ?_ ?_)) ?_
    · rintro k a1 w1 hkn ⟨Ls, I⟩
      exact round19 hO' hk hn hkn ⟨fun b hb => hrows.rows b (List.mem_of_mem_take hb), hrows.apart.sublist (List.take_sublist _ _)⟩ I
    · rintro a1 w1 ⟨Ls, I⟩
      refine wp_mono (leave19 I) ?_
      rintro e a2 w2 ⟨rfl, I⟩
      exact ⟨by simp, rfl, Ls, I⟩
    · rintro a1 w1 ⟨Ls, I⟩
      show wpL Try.prog _ ([itemN c19 6, itemN c19 7] ++ []) a1 w1
      refine I.at_.items (ovS_ok shT _ _) nilC mix (fun c _ => hooksOk_nil c) (fun z => endS M (rowsL L) gr es L.length c w2.heap.size most sw now z L.length) (fun x hx => by cases hx) rfl (fun he => by cases he) fun _ a2 w3 h6 => ?_
      obtain ⟨z, h6⟩ := h6
      refine ⟨.inr rfl, _, _, _, .map (some w2.heap.size), [⟨rowsL L, gr, es, true⟩], [], h6, by kernel_rfl, rfl, rfl, .inr ⟨w2.heap.size, Ls, rfl, hh, hrows, ?_, I.nums, I.ok, rfl⟩⟩
      rw [I.bs, List.take_length]
  · refine wp_then (e0 := .ret) (R := fun a1 w1 => ∃ b g, AtV M O N19 [1, 2, 4, 5, 44, 45, 46, 6, 7] (xS L.length c w2.heap.size now k0 []) (hB (rowsL L) gr es L.length c most sw b) [] g a1 w1) (wp_block (wp_loop_idx (fun k a1 w1 => ∃ Ls, Inv19 M O L gr es c w2.heap.size most sw now k Ls a1 w1) k0 ⟨[], I0⟩ ?_ ?_)) (fun he => by cases he) ?_
    · rintro k a1 w1 hkn ⟨Ls, I⟩
      have ht : L.take (k + 1) = (L.take k0).take (k + 1) := by rw [List.take_take, Nat.min_eq_left (by omega)]
      exact round19 hO' hk hn (by omega) ⟨fun b hb => hgood.rows b (by rw [ht] at hb; exact List.mem_of_mem_take hb), by rw [ht]; exact hgood.apart.sublist (List.take_sublist _ _)⟩ I
    · rintro a1 w1 ⟨Ls, I⟩
      refine wp_mono (wrong19 hk hk0 hgood hbad I) ?_
      rintro e a2 w2 ⟨rfl, h⟩
      exact ⟨by simp, rfl, h⟩
    · rintro _ a1 w1 ⟨b, g, z, h6⟩
      refine ⟨.inr rfl, _, _, _, .map none, [⟨rowsL L, gr, es, true⟩], [], h6, by kernel_rfl, rfl, rfl, .inl ⟨rfl, fun h => hbad ?_⟩⟩
      exact ⟨fun x hx => h.2.rows x (List.mem_of_mem_take hx), h.2.apart.sublist (List.take_sublist _ _)⟩
end Go.Proofs.Ytfkdcpinajnbfaa
