/- The limiter's Allow: the answer's buckets, one behind the other (variant Z).
   Conditions: keys of bytes. -/
import Derived.Test.YtfkdcpinajnbfaaSortZ
import Derived.Test.YtfkdcpinajnbfaaOutS
open Go.Ab
set_option linter.unusedVariables false
set_option linter.unusedSimpArgs false
namespace Go.Proofs.Ytfkdcpinajnbfaa
set_option maxRecDepth 100000

section
variable {M : Mem} {O : Org}  {mb clk : Nat} {most sw sw' now : Int} {key : Key} {b : Bool}

abbrev hNZ  (most sw sw' : Int) (key : Key) (C : List Value) : AHeap := [] ++ [some (bxV (.slice none 0 0) most sw), some ⟨kc key, false, 1, true⟩, some ⟨[.int .i64 0, .int .i64 0, .slice none 0 0], false, 1, false⟩, some ⟨[.int .i64 most, .int .i64 sw', .slice none 0 0], false, 1, false⟩, some ⟨C, true, 1, true⟩]
abbrev hGZ  (most sw sw' : Int) (key : Key) (C D : List Value) (k : Nat) : AHeap := [] ++ [some (bxV (.slice none 0 0) most sw), some ⟨kc key, false, 1, true⟩, some ⟨[.int .i64 0, .int .i64 0, .slice none 0 0], false, 1, false⟩, some ⟨[.int .i64 most, .int .i64 sw', .slice (some ⟨5, 0, some (k * 11)⟩) k k], false, 1, false⟩, some ⟨C, true, 1, true⟩, some ⟨D, true, 11, true⟩]
abbrev vGZ (mb : Nat) (now : Int) (b : Bool) (m : Nat) (i : Int) (x : List Value) : List Value := vAZ mb now ([.bool b, .slice (some ⟨4, 0, some m⟩) m m, .int .i64 m, .int .i64 i] ++ x)

/-- The first bucket. -/
theorem firstZ (hO : O.h = []) {L : List Ent} {e : Ent} (h0 : L[0]? = some e) {a : Go.Act} {w : World}
    (h : AtV M O N9 [2, 3, 4, 6, 8, 9, 12, 133, 134, 135] (vGZ mb now b L.length 0 []) (hNZ  most sw sw' key (L.map ptrE)) [] (gRest L 0) a w) (hd : (L.map (·.blk)).Nodup) :
    g9.wp Try.prog (fun e a1 w1 => e = .normal ∧ AtV M O N9 [2, 3, 4, 6, 8, 9, 12, 133, 134, 135] (vGZ mb now b L.length ((1 : Nat) : Int) []) (hGZ  most sw sw' key (L.map ptrE) (rowsL (bksL (L.take 1))) 1) [] (gRest L 1) a1 w1) a w := by
  have hpos : 0 < L.length := (List.getElem?_eq_some_iff.1 h0).1
  refine wp_items g9 ?_
  rw [itemsG9]
  show wpL Try.prog _ ([itemN g9 0, itemN g9 1] ++ [.block 5 h9, itemN g9 3]) a w
  refine h.items (ovS_ok shT _ _) nilC mix (fun c _ => hooksOk_nil c) (fun z => i30tNZ M  mb most sw now key z sw' b (L.map ptrE) [] L.length 0 0) (held_one (decide_eq_true (by omega))) rfl (fun _ a1 w1 h1 => ?_) fun hne => absurd rfl hne
  refine wpL_cons (R := fun a2 w2 => AtV M O N9 [2, 3, 4, 6, 8, 9, 12, 133, 134, 135] (vGZ mb now b L.length 0 []) (hGZ  most sw sw' key (L.map ptrE) (rowsL (bksL (L.take 1))) 1) [] (gRest L 1) a2 w2) (wp_block_items ?_) fun a2 w2 h2 => ?_
  · rw [itemsH9]
    show wpL Try.prog _ ([itemN h9 0] ++ [itemN h9 1]) a1 w1
    refine h1.items (ovF_ok 53 (ptrE e) shT _ _) nilC mix (fun c _ => hooksOk_nil c) (fun z => r31NZ M  mb most sw now key z sw' b (L.map ptrE) [] L.length 0 0 e.blk) (held_cons (by rw [inB_iff]; omega) (held_one ?_)) rfl (fun _ a2 w2 h2 => ?_) fun hne => absurd rfl hne
    · have hl : (L.map ptrE)[0 + (0 : Int).toNat * 1]? = some (.pointer (some ⟨e.blk, 0, none⟩)) := by simp [h0]
      rw [hl]; simp
    · have hcell : gRest L 0 e.blk (.cells (ec e.b e.num)) := ⟨e, by simpa using List.mem_of_getElem? h0, rfl, rfl⟩
      have h3 := h2.open hcell 1 rfl (V' := vGZ mb now b L.length 0 [.pointer (some ⟨5, 0, some 12⟩)])
        (by refine ⟨.inl rfl, .inl rfl, .inl rfl, .inl rfl, .inl rfl, .inl rfl, .inl rfl, .inl rfl, .inl rfl, .inl rfl, .inr ⟨rfl, rfl⟩, trivial⟩)
      have h3' : AtV M O N9 [2, 3, 4, 6, 8, 9, 12, 133, 134, 135, 18] (vGZ mb now b L.length 0 [.pointer (some ⟨5, 0, some 12⟩)]) (hNZ  most sw sw' key (L.map ptrE) ++ [some ⟨ec e.b e.num, false, 1, true⟩]) [] (gRest L 1) a2 w2 := by
        obtain ⟨z, m, h3⟩ := h3
        refine ⟨z, m, h3.r0, h3.tr, h3.t, h3.d, fun p hp => (by cases hp), fun b' x hx => h3.g b' x ?_⟩
        obtain ⟨e', he', h4, h5⟩ := hx
        refine ⟨⟨e', by simpa using List.mem_of_mem_drop he', h4, h5⟩, fun hb => ?_⟩
        cases L with
        | nil => simp at h0
        | cons x L =>
          simp at h0; subst h0
          simp only [List.map_cons, List.nodup_cons] at hd
          exact hd.1 (List.mem_map.2 ⟨e', by simpa using he', h4.symm.trans hb⟩)
      show wpL Try.prog _ ([itemN h9 1] ++ []) a2 w2
      refine h3'.items (ovS_ok shT _ _) nilC mix (fun c _ => hooksOk_nil c) (fun z => r32NZ M  mb most sw now key z sw' b (L.map ptrE) [] L.length 0 0 e.b e.num) (fun x hx => by cases hx) rfl (fun _ a3 w3 h4 => ?_) fun hne => absurd rfl hne
      have h5 := h4.compact (keep := [0, 1, 2, 3, 4] ++ [7]) (i0 := 0) (V' := vGZ mb now b L.length 0 []) (lo := (hGZ  most sw sw' key (L.map ptrE) (bc e.b) 1).filterMap id) (by kernel_rfl) (fun i hi => by rw [hO] at hi; simp at hi )
      have e1 : rowsL (bksL (L.take 1)) = bc e.b := by
        cases L with
        | nil => simp at h0
        | cons x L => simp at h0; subst h0; simp [bksL, rowsL]
      rw [e1]
      exact ⟨rfl, h5⟩
  · show wpL Try.prog _ ([itemN g9 3] ++ []) a2 w2
    exact h2.items (ovS_ok shT _ _) nilC mix (fun c _ => hooksOk_nil c) (fun z => r33GZ M  mb most sw now key z sw' b (L.map ptrE) _ L.length 1 0) (fun x hx => by cases hx) rfl (fun _ a3 w3 h3 => ⟨rfl, h3⟩) fun hne => absurd rfl hne

/-- A further bucket. -/
theorem nextZ (hO : O.h = []) {L : List Ent} {k : Nat} {e : Ent} (hk : L[k]? = some e) (hm : L.length ≤ 4097) {a : Go.Act} {w : World}
    (h : AtV M O N9 [2, 3, 4, 6, 8, 9, 12, 133, 134, 135] (vGZ mb now b L.length k []) (hGZ  most sw sw' key (L.map ptrE) (rowsL (bksL (L.take k))) k) [] (gRest L k) a w) (hd : (L.map (·.blk)).Nodup) :
    g9.wp Try.prog (fun e a1 w1 => e = .normal ∧ AtV M O N9 [2, 3, 4, 6, 8, 9, 12, 133, 134, 135] (vGZ mb now b L.length ((k + 1 : Nat) : Int) []) (hGZ  most sw sw' key (L.map ptrE) (rowsL (bksL (L.take (k + 1)))) (k + 1)) [] (gRest L (k + 1)) a1 w1) a w := by
  have hkl : k < L.length := (List.getElem?_eq_some_iff.1 hk).1
  have hdrop : L.drop k = e :: L.drop (k + 1) := by
    rw [List.drop_eq_getElem_cons hkl]
    have := List.getElem?_eq_getElem hkl
    rw [hk] at this
    rw [← Option.some.inj this]
  refine wp_items g9 ?_
  rw [itemsG9]
  show wpL Try.prog _ ([itemN g9 0, itemN g9 1] ++ [.block 5 h9, itemN g9 3]) a w
  refine h.items (ovS_ok shT _ _) nilC mix (fun c _ => hooksOk_nil c) (fun z => i30tGZ M  mb most sw now key z sw' b (L.map ptrE) _ L.length k k) (held_one (decide_eq_true (by omega))) rfl (fun _ a1 w1 h1 => ?_) fun hne => absurd rfl hne
  refine wpL_cons (R := fun a2 w2 => AtV M O N9 [2, 3, 4, 6, 8, 9, 12, 133, 134, 135] (vGZ mb now b L.length k []) (hGZ  most sw sw' key (L.map ptrE) (rowsL (bksL (L.take (k + 1)))) (k + 1)) [] (gRest L (k + 1)) a2 w2) (wp_block_items ?_) fun a2 w2 h2 => ?_
  · rw [itemsH9]
    show wpL Try.prog _ ([itemN h9 0] ++ [itemN h9 1]) a1 w1
    refine h1.items (ovF_ok 53 (ptrE e) shT _ _) nilC mix (fun c _ => hooksOk_nil c) (fun z => r31GZ M  mb most sw now key z sw' b (L.map ptrE) _ L.length k k e.blk) (held_cons (by rw [inB_iff]; omega) (held_one ?_)) rfl (fun _ a2 w2 h2 => ?_) fun hne => absurd rfl hne
    · have hl : (L.map ptrE)[0 + (k : Int).toNat * 1]? = some (.pointer (some ⟨e.blk, 0, none⟩)) := by simp [hk]
      rw [hl]; simp
    · have hcell : gRest L k e.blk (.cells (ec e.b e.num)) := ⟨e, by rw [hdrop]; simp, rfl, rfl⟩
      have h3 := h2.open hcell 1 rfl (V' := vGZ mb now b L.length k [.pointer (some ⟨6, 0, some 12⟩)])
        (by refine ⟨.inl rfl, .inl rfl, .inl rfl, .inl rfl, .inl rfl, .inl rfl, .inl rfl, .inl rfl, .inl rfl, .inl rfl, .inr ⟨rfl, rfl⟩, trivial⟩)
      have h3' : AtV M O N9 [2, 3, 4, 6, 8, 9, 12, 133, 134, 135, 18] (vGZ mb now b L.length k [.pointer (some ⟨6, 0, some 12⟩)]) (hGZ  most sw sw' key (L.map ptrE) (rowsL (bksL (L.take k))) k ++ [some ⟨ec e.b e.num, false, 1, true⟩]) [] (gRest L (k + 1)) a2 w2 := by
        obtain ⟨z, m, h3⟩ := h3
        refine ⟨z, m, h3.r0, h3.tr, h3.t, h3.d, fun p hp => (by cases hp), fun b' x hx => h3.g b' x ?_⟩
        obtain ⟨e', he', h4, h5⟩ := hx
        refine ⟨⟨e', by rw [hdrop]; simp [he'], h4, h5⟩, fun hb => ?_⟩
        have hnd : ((L.drop k).map (·.blk)).Nodup := hd.sublist ((List.drop_sublist k L).map _)
        rw [hdrop] at hnd
        simp only [List.map_cons, List.nodup_cons] at hnd
        exact hnd.1 (List.mem_map.2 ⟨e', he', h4.symm.trans hb⟩)
      show wpL Try.prog _ ([itemN h9 1] ++ []) a2 w2
      refine h3'.items (ovX_ok _ _) nilC mix (fun c _ => hooksOk_nil c) (fun z => r32GZ M  mb most sw now key z sw' b (L.map ptrE) _ L.length k k e.b e.num) (held_one ?_) rfl (fun _ a3 w3 h4 => ?_) fun hne => absurd rfl hne
      · have : (rowsL (bksL (L.take k))).length = k * 11 := by rw [rowsL_length]; simp [bksL]; omega
        simp [this, room]; omega
      have h5 := h4.compact (keep := [0, 1, 2, 3, 4, 5]) (i0 := 0) (V' := vGZ mb now b L.length k []) (lo := (hGZ  most sw sw' key (L.map ptrE) ((rowsL (bksL (L.take k))).take (k * 11) ++ bc e.b) (k + 1)).filterMap id) (by kernel_rfl) (fun i hi => by rw [hO] at hi; simp at hi )
      rw [rows_take hk] at h5
      exact ⟨rfl, h5⟩
  · show wpL Try.prog _ ([itemN g9 3] ++ []) a2 w2
    refine h2.items (ovS_ok shT _ _) nilC mix (fun c _ => hooksOk_nil c) (fun z => r33GZ M  mb most sw now key z sw' b (L.map ptrE) _ L.length (k + 1) k) (fun x hx => by cases hx) rfl (fun _ a3 w3 h3 => ?_) fun hne => absurd rfl hne
    have e1 : IntKind.wrap .i64 ((k : Int) + 1) = ((k + 1 : Nat) : Int) := by rw [Ab.wrap_i64 (by omega) (by omega)]; omega
    rw [e1] at h3
    exact ⟨rfl, h3⟩

/-- The answer. -/
theorem outZ (hO : O.h = []) {L : List Ent} (hok : MapOk mb clk L) (hm : L.length ≤ 4097) (hpos : 0 < L.length) {a : Go.Act} {w : World}
    (h : AtV M O N9 [2, 3, 4, 6, 8, 9, 12, 14] (vAZ mb now [.bool b, .slice (some ⟨4, 0, some L.length⟩) L.length L.length]) (hLZ  most sw sw' key (L.map ptrE)) [] (gMap mb clk L) a w) :
    wpL Try.prog (Done Try.prog M O Try.f9 ([] : List AObj).length fun v os' ns _ => v = .tuple #[.agg #[.int .i64 most, .int .i64 sw', .slice (some ⟨0, 0, some (L.length * 11)⟩) L.length L.length], .bool b] ∧ os' = [] ∧ ns = [⟨rowsL (bksL L), true, 11, true⟩]) [itemN c9 15, .block 4 (.loop g9), itemN c9 17, itemN c9 18] a w := by
  have hd : (L.map (·.blk)).Nodup := (List.nodup_cons.1 hok.blks).2
  obtain ⟨e0, he0⟩ : ∃ e, L[0]? = some e := ⟨_, List.getElem?_eq_getElem hpos⟩
  show wpL Try.prog _ ([itemN c9 15] ++ [.block 4 (.loop g9), itemN c9 17, itemN c9 18]) a w
  refine h.items (ovS_ok shT _ _) nilC mix (fun c _ => hooksOk_nil c) (fun z => r29Z M  mb most sw now key z sw' b (L.map ptrE) L.length L.length) (fun x hx => by cases hx) rfl (fun _ a1 w1 h1 => ?_) fun hne => absurd rfl hne
  have h2 : AtV M O N9 [2, 3, 4, 6, 8, 9, 12, 133, 134, 135] (vGZ mb now b L.length 0 []) (hNZ  most sw sw' key (L.map ptrE)) [] (gRest L 0) a1 w1 := h1.weaken fun b' x hx => by
    obtain ⟨e, he, h3, h4⟩ := hx
    exact .inr ⟨e, by simpa using he, h3, h4⟩
  refine wpL_cons (R := fun a2 w2 => AtV M O N9 [2, 3, 4, 6, 8, 9, 12, 133, 134, 135] (vGZ mb now b L.length L.length []) (hGZ  most sw sw' key (L.map ptrE) (rowsL (bksL L)) L.length) [] (gRest L L.length) a2 w2)
    (wp_block (wp_loop_idx (fun k a2 w2 => if k = 0 then AtV M O N9 [2, 3, 4, 6, 8, 9, 12, 133, 134, 135] (vGZ mb now b L.length 0 []) (hNZ  most sw sw' key (L.map ptrE)) [] (gRest L 0) a2 w2
      else AtV M O N9 [2, 3, 4, 6, 8, 9, 12, 133, 134, 135] (vGZ mb now b L.length k []) (hGZ  most sw sw' key (L.map ptrE) (rowsL (bksL (L.take k))) k) [] (gRest L k) a2 w2) L.length (by rw [if_pos rfl]; exact h2) ?_ ?_)) ?_
  · intro k a2 w2 hk I
    obtain ⟨e, he⟩ : ∃ e, L[k]? = some e := ⟨_, List.getElem?_eq_getElem hk⟩
    refine wp_mono (Q := fun e a' w' => e = .normal ∧ AtV M O N9 [2, 3, 4, 6, 8, 9, 12, 133, 134, 135] (vGZ mb now b L.length ((k + 1 : Nat) : Int) []) (hGZ  most sw sw' key (L.map ptrE) (rowsL (bksL (L.take (k + 1)))) (k + 1)) [] (gRest L (k + 1)) a' w') ?_ (fun e a' w' h => ⟨h.1, by rw [if_neg (Nat.succ_ne_zero k)]; exact h.2⟩)
    by_cases h0 : k = 0
    · subst h0
      rw [if_pos rfl] at I
      exact firstZ hO he I hd
    · rw [if_neg h0] at I
      exact nextZ hO he hm I hd
  · intro a2 w2 I
    rw [if_neg (show ¬ L.length = 0 by omega), List.take_length] at I
    refine wp_items g9 ?_
    rw [itemsG9]
    show wpL Try.prog _ ([itemN g9 0, itemN g9 1] ++ [.block 5 h9, itemN g9 3]) a2 w2
    exact I.items (ovS_ok shT _ _) nilC mix (fun c _ => hooksOk_nil c) (fun z => i30fGZ M  mb most sw now key z sw' b (L.map ptrE) _ L.length L.length L.length) (held_one (decide_eq_false (by omega))) rfl (fun he => by cases he) fun _ a3 w3 h3 => ⟨by simp [AExit.to], rfl, h3⟩
  · intro a2 w2 h3
    show wpL Try.prog _ ([itemN c9 17, itemN c9 18] ++ []) a2 w2
    refine h3.items (ovS_ok shT _ _) nilC mix (fun c _ => hooksOk_nil c) (fun z => r34GZ M  mb most sw now key z sw' b (L.map ptrE) _ L.length L.length L.length) (fun x hx => by cases hx) rfl (fun he => by cases he) fun _ a3 w3 h4 => ?_
    obtain ⟨z, h4⟩ := h4
    exact ⟨.inr rfl, _, _, _, _, [], [⟨rowsL (bksL L), true, 11, true⟩], h4, by kernel_rfl, rfl, rfl, rfl⟩
end
end Go.Proofs.Ytfkdcpinajnbfaa
