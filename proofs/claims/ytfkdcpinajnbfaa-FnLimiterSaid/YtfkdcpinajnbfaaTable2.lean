/- The method table of the limiter: the loop over its buckets.
   Conditions: keys of bytes. -/
import Derived.Test.YtfkdcpinajnbfaaTable
open Go.Ab
set_option linter.unusedVariables false
set_option linter.unusedSimpArgs false
namespace Go.Proofs.Ytfkdcpinajnbfaa
set_option maxRecDepth 100000

theorem region1 : drawOf (itemN d19 1) = false := by kernel_rfl
theorem range1 : List.range (opsOf (itemN d19 1)).size = [0, 1, 2] ++ (3 :: ([4, 5, 6, 7, 8, 9, 10, 11, 12, 13, 14, 15, 16, 17, 18, 19, 20, 21, 22, 23, 24, 25] ++ [])) := by kernel_rfl
theorem op13 : (opsOf (itemN d19 1))[3]? = some (opAt (itemN d19 1) 3) := by kernel_rfl
theorem op13g : (opAt (itemN d19 1) 3).guard = none := by kernel_rfl
theorem op13d : (opAt (itemN d19 1) 3).dst = some 54 := by kernel_rfl
theorem op13o : (opAt (itemN d19 1) 3).op = .lookup 51 (.tmp 51) (.tmp 53) false := by kernel_rfl
theorem region3 : drawOf (itemN d19 3) = false := by kernel_rfl
theorem range3 : List.range (opsOf (itemN d19 3)).size = [0, 1, 2, 3, 4, 5, 6] ++ [7] := by kernel_rfl
theorem op37 : (opsOf (itemN d19 3))[7]? = some (opAt (itemN d19 3) 7) := by kernel_rfl
theorem op37g : (opAt (itemN d19 3) 7).guard = none := by kernel_rfl
theorem op37d : (opAt (itemN d19 3) 7).dst = none := by kernel_rfl
theorem op37o : (opAt (itemN d19 3) 7).op = .mapUpdate 51 (.tmp 77) (.tmp 79) (.tmp 83) := by kernel_rfl

section
variable {M : Mem} {O : Org} {L : List Bk} {gr : Bool} {es c mb : Nat} {most sw now : Int}

/-- The world at the loop's k-th round. -/
structure Inv19 (M : Mem) (O : Org) (L : List Bk) (gr : Bool) (es c mb : Nat) (most sw now : Int) (k : Nat) (Ls : List Ent) (a : Go.Act) (w : World) : Prop where
  bs : Ls.map (·.b) = L.take k
  nums : Ls.map (·.num) = List.range k
  ok : MapOk mb k Ls
  at_ : AtV M O N19 [1, 2, 4, 5, 44, 45, 46] (wS mb now [slR L.length c, .int .i64 L.length, .int .i64 k]) (hS (rowsL L) gr es L.length c most sw) [] (gMap mb k Ls) a w

theorem hO19 {os : List AObj} (hO : O.h = os.map some) {H : AHeap} (h : ∀ i, i < os.length → i < H.length) : ∀ i o, hget O.h i = some o → i < H.length := fun i o hi => by
  have := hget_lt hi
  rw [hO, List.length_map] at this
  exact h i this

/-- The bucket is looked at: the map holds its key, or not. -/
theorem look19 {k : Nat} {Ls : List Ent} (hok : MapOk mb k Ls) {b : Bk} (hb : KeyOk b.k) {Q : Exit → Go.Act → World → Prop} {rest : List Code} {a : Go.Act} {w : World} {i : Int} {n : Nat}
    (h : AtV M O N19 [1, 2, 4, 5, 44, 45, 46, 6, 7] (xS n c mb now i []) (hB (rowsL L) gr es n c most sw b) [] (gMap mb k Ls) a w)
    (k1 : (∀ e ∈ Ls, e.b.k ≠ b.k) → RowOk now b → ∀ a1 w1, AtV M O N19 [1, 2, 4, 5, 44, 45, 46, 6, 7] (xS n c mb now i []) (hB (rowsL L) gr es n c most sw b) [] (gMap mb k Ls) a1 w1 → wpL Try.prog Q rest a1 w1)
    (k2 : (¬ RowOk now b ∨ ∃ e ∈ Ls, e.b.k = b.k) → ∀ a1 w1, AtV M O N19 [1, 2, 4, 5, 44, 45, 46, 6, 7] (xS n c mb now i []) (hB (rowsL L) gr es n c most sw b) [] (gMap mb k Ls) a1 w1 → Q .ret a1 w1) :
    wpL Try.prog Q (itemN d19 1 :: itemN d19 2 :: rest) a w := by
  show (itemN d19 1).wp Try.prog (Exit.then (wpL Try.prog Q (itemN d19 2 :: rest)) Q) a w
  refine wp_rgn region1 range1 ?_
  refine h.ops (K := fnsC []) (cl := fun l => l) (fnsC_sound nilC) (fun z => keyS M (rowsL L) gr es n c mb most sw now z i b) rfl fun a1 w1 h1 => ?_
  have hw := (h1.known (b := mb) (x := .obj (mapO Ls k)) (.inl ⟨rfl, rfl⟩)).1
  have e1 : a1.eval (.tmp 51) = .map (some mb) := h1.eval (fun z => by kernel_rfl) rfl
  have e2 : a1.eval (.tmp 53) = kv b.k := h1.eval (fun z => by kernel_rfl) rfl
  rcases run_lookup hw hok.keys hb with ⟨hr, hne⟩ | ⟨j, e, hr, hj, hek⟩
  · refine wpOps_value op13 op13g (ex_lookup op13o (by rw [e1, e2]; exact hr)) ?_
    rw [op13d]
    have h2 := h1.put (some 54) (v := .pointer none) rfl (fun z => putK n c mb now z i b _)
    rcases row_cases b now with hrow | ⟨j, hj, hbad⟩
    · refine h2.opsU (ovS_ok shT _ _) nilC (fun z => okS M (rowsL L) gr es n c mb most sw now z i b) (row_held hrow) rfl fun a2 w2 h3 => ?_
      refine h3.items (cs := [itemN d19 2]) (ovS_ok shT _ _) nilC mix (fun c _ => hooksOk_nil c) (fun z => goS M (rowsL L) gr es n c mb most sw now z i b) (fun x hx => by cases hx) rfl (fun _ a3 w3 h4 => k1 hne hrow a3 w3 h4) fun hne => absurd rfl hne
    · refine h2.opsU (ovS_ok shT _ _) nilC (fun z => noS M (rowsL L) gr es n c mb most sw now z i b j hj) hbad rfl fun a2 w2 h3 => ?_
      refine h3.items (cs := [itemN d19 2]) (ovS_ok shT _ _) nilC mix (fun c _ => hooksOk_nil c) (fun z => reS M (rowsL L) gr es n c mb most sw now z i b) (fun x hx => by cases hx) rfl (fun he => by cases he) fun _ a3 w3 h4 => k2 (.inl fun hrow => ?_) a3 w3 h4
      obtain ⟨q0, q1, q2, q3⟩ := hrow
      obtain rfl | rfl | rfl | rfl : j = 0 ∨ j = 1 ∨ j = 2 ∨ j = 3 := by omega
      · have := hbad (decide (b.tok < 0), true) (by simp [badR, rowP]); simp at this; omega
      · have := hbad (decide (b.tok > 250000000), true) (by simp [badR, rowP]); simp at this; omega
      · have := hbad (decide (b.last < 0), true) (by simp [badR, rowP]); simp at this; omega
      · have := hbad (decide (b.last > now), true) (by simp [badR, rowP]); simp at this; omega
  · refine wpOps_value op13 op13g (ex_lookup op13o (by rw [e1, e2]; exact hr)) ?_
    rw [op13d]
    have h2 := h1.put (some 54) (v := .pointer (some ⟨e.blk, 0, none⟩)) rfl (fun z => putK n c mb now z i b _)
    refine h2.opsU (ovS_ok shT _ _) nilC (fun z => dupS M (rowsL L) gr es n c mb most sw now z i b e.blk) (fun x hx => by cases hx) rfl fun a2 w2 h3 => ?_
    refine h3.items (cs := [itemN d19 2]) (ovS_ok shT _ _) nilC mix (fun c _ => hooksOk_nil c) (fun z => reS M (rowsL L) gr es n c mb most sw now z i b) (fun x hx => by cases hx) rfl (fun he => by cases he) fun _ a3 w3 h4 => k2 (.inr ⟨e, List.mem_of_getElem? hj, hek⟩) a3 w3 h4

/-- A new entry is laid into the map. -/
theorem add19 {k : Nat} {Ls : List Ent} (hok : MapOk mb k Ls) {b : Bk} (hb : KeyOk b.k) (hnew : ∀ e ∈ Ls, e.b.k ≠ b.k) (hO : O.h = [some ⟨rowsL L, gr, es, true⟩]) {Q : Exit → Go.Act → World → Prop} {a : Go.Act} {w : World} {n : Nat}
    (h : AtV M O N19 [1, 2, 4, 5, 44, 45, 46, 6, 7] (xS n c mb now k []) (hB (rowsL L) gr es n c most sw b) [] (gMap mb k Ls) a w)
    (k1 : ∀ blk, MapOk mb (k + 1) (Ls ++ [⟨b, k, blk⟩]) → ∀ a1 w1, AtV M O N19 [1, 2, 4, 5, 44, 45, 46] (wS mb now [slR n c, .int .i64 n, .int .i64 k]) (hS (rowsL L) gr es n c most sw) [] (gMap mb (k + 1) (Ls ++ [⟨b, k, blk⟩])) a1 w1 → Q .normal a1 w1) :
    wpL Try.prog Q [itemN d19 3] a w := by
  show (itemN d19 3).wp Try.prog (Exit.then (wpL Try.prog Q []) Q) a w
  refine wp_rgn region3 range3 ?_
  refine h.ops (K := fnsC []) (cl := fun l => l) (fnsC_sound nilC) (fun z => boxS M (rowsL L) gr es n c mb most sw now z k b) rfl fun a1 w1 h1 => ?_
  have hw := (h1.known (b := mb) (x := .obj (mapO Ls k)) (.inl ⟨rfl, rfl⟩)).1
  have hst : ∀ j oj, hget O.h j = some oj → ∃ o', hget (hB (rowsL L) gr es n c most sw b ++ [some ⟨ec b k, false, 1, true⟩]) j = some o' ∧ o'.cells.length = oj.cells.length := fun j oj hj => by
    rw [hO] at hj
    match j, hj with
    | 0, hj => cases hj; exact ⟨_, rfl, rfl⟩
    | j + 1, hj => cases hj
  obtain ⟨blk, h2, hbase, hlt, hfree⟩ := h1.name (i := 3) (o := ⟨ec b k, false, 1, true⟩) rfl (by rw [hO]; rfl) hst
  have e1 : a1.eval (.tmp 77) = .map (some mb) := h2.eval (fun z => by kernel_rfl) rfl
  have e2 : a1.eval (.tmp 79) = kv b.k := h2.eval (fun z => by kernel_rfl) rfl
  have e3 : a1.eval (.tmp 83) = .pointer (some ⟨blk, 0, none⟩) := h2.addr (i := 3) (n := 12) (by simp) rfl rfl (fun z => by kernel_rfl)
  refine wpOps_skip op37 op37g (ex_update op37o (by rw [e1, e2, e3]; exact run_update hw hok.keys hb hnew blk)) ?_
  rw [op37d]
  have h3 := h2.set (g' := fun x y => (x = mb ∧ y = .obj (mapO (Ls ++ [⟨b, k, blk⟩]) (k + 1))) ∨ ∃ e ∈ Ls, x = e.blk ∧ y = .cells (ec e.b e.num)) (b := mb) (y := .obj (mapO Ls k)) (.inl ⟨rfl, rfl⟩) (mapO (Ls ++ [⟨b, k, blk⟩]) (k + 1)) (fun b' x hx => by
    rcases hx with ⟨h1, h2⟩ | ⟨e, he, h1, h2⟩
    · exact .inr ⟨h1, h2⟩
    · refine .inl ⟨fun hm => ?_, .inr ⟨e, he, h1, h2⟩⟩
      have := (List.nodup_cons.1 hok.blks).1
      exact this (by rw [← hm, h1]; exact List.mem_map.2 ⟨e, he, rfl⟩))
  have h4 := h3.close (H := hB (rowsL L) gr es n c most sw b) (l := ec b k) (e := 1) (b := blk) (nm' := []) (by simp) hbase (fun p hp => by cases hp) (hO19 (os := [⟨rowsL L, gr, es, true⟩]) (by rw [hO]; rfl) (fun i hi => by simp at hi ⊢; omega)) (i0 := 1) rfl (Nat.succ_pos 2) rfl
    (V' := wS mb now [slR n c, .int .i64 n, .int .i64 k, .map (some mb), kv b.k, .pointer (some ⟨blk, 0, none⟩)]) (by refine ⟨.inl ⟨rfl, .inr rfl⟩, .inl ⟨rfl, .inl rfl⟩, .inl ⟨rfl, .inr rfl⟩, .inl ⟨rfl, .inr rfl⟩, .inl ⟨rfl, .inl rfl⟩, .inl ⟨rfl, .inr rfl⟩, .inl ⟨rfl, .inr rfl⟩, .inl ⟨rfl, .inr rfl⟩, .inl ⟨rfl, .inr rfl⟩, .inr ⟨rfl, rfl⟩, trivial⟩)
  have hst2 : ∀ j oj, hget O.h j = some oj → ∃ o', hget (hB (rowsL L) gr es n c most sw b) j = some o' ∧ o'.cells.length = oj.cells.length := fun j oj hj => by
    rw [hO] at hj
    match j, hj with
    | 0, hj => cases hj; exact ⟨_, rfl, rfl⟩
    | j + 1, hj => cases hj
  obtain ⟨blk2, h5, hbase2, _, _⟩ := h4.name (i := 2) (o := ⟨bc b, false, 1, true⟩) rfl (by rw [hO]; rfl) hst2
  have h6 := h5.live (live' := [1, 2, 4, 5, 44, 45, 46]) (V' := wS mb now [slR n c, .int .i64 n, .int .i64 k]) (fun z => by kernel_rfl)
  have h7 := h6.close (H := hS (rowsL L) gr es n c most sw) (l := bc b) (e := 1) (b := blk2) (nm' := []) (by simp) hbase2 (fun p hp => by cases hp) (hO19 (os := [⟨rowsL L, gr, es, true⟩]) (by rw [hO]; rfl) (fun i hi => by simp at hi ⊢; omega)) (i0 := 1) rfl (Nat.succ_pos 2) rfl
    (V' := wS mb now [slR n c, .int .i64 n, .int .i64 k]) (by refine ⟨.inl ⟨rfl, .inr rfl⟩, .inl ⟨rfl, .inl rfl⟩, .inl ⟨rfl, .inr rfl⟩, .inl ⟨rfl, .inr rfl⟩, .inl ⟨rfl, .inl rfl⟩, .inl ⟨rfl, .inr rfl⟩, .inl ⟨rfl, .inr rfl⟩, trivial⟩)
  refine k1 blk ⟨?_, ?_, ?_, ?_, ?_⟩ _ _ (h7.weaken fun b' x hx => ?_)
  · intro e he
    rcases List.mem_append.1 he with he | he
    · exact hok.keys e he
    · simp at he; subst he; exact hb
  · exact List.pairwise_append.2 ⟨hok.apart, by simp, fun x hx y hy => by simp at hy; subst hy; exact hnew x hx⟩
  · rw [List.map_append, ← List.cons_append]
    refine List.nodup_append.2 ⟨hok.blks, by simp, fun x hx y hy => ?_⟩
    simp at hy; subst hy
    intro hxy; subst hxy
    rcases List.mem_cons.1 hx with rfl | hx
    · exact hfree _ (.inl ⟨rfl, rfl⟩)
    · obtain ⟨e, he, hee⟩ := List.mem_map.1 hx
      exact hfree _ (.inr ⟨e, he, hee.symm, rfl⟩)
  · exact List.pairwise_append.2 ⟨hok.nums, by simp, fun x hx y hy => by simp at hy; subst hy; exact hok.clk x hx⟩
  · intro e he
    rcases List.mem_append.1 he with he | he
    · have := hok.clk e he; omega
    · simp at he; subst he; simp
  · rcases hx with ⟨h1, h2⟩ | ⟨e, he, h1, h2⟩
    · exact .inl (.inl (.inl ⟨h1, h2⟩))
    · rcases List.mem_append.1 he with he | he
      · exact .inl (.inl (.inr ⟨e, he, h1, h2⟩))
      · simp at he; subst he; exact .inl (.inr ⟨h1, h2⟩)
end
end Go.Proofs.Ytfkdcpinajnbfaa
