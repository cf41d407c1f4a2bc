/- The limiter's Allow: the key's bucket is asked (variant Z).
   Conditions: keys of bytes. -/
import Derived.Test.YtfkdcpinajnbfaaSweep2Z
import Derived.Test.YtfkdcpinajnbfaaAskS
open Go.Ab
set_option linter.unusedVariables false
set_option linter.unusedSimpArgs false
namespace Go.Proofs.Ytfkdcpinajnbfaa
open Go.ChangeMaps (setBlock)
set_option maxRecDepth 100000

section
variable {M : Mem} {O : Org}  {mb clk : Nat} {most sw sw' now : Int} {key : Key}

theorem updZ (hO : O.h = []) {Ls : List Ent} (hok : MapOk mb clk Ls) {e : Ent} (he : e ∈ Ls) (hek : e.b.k = key) {a : Go.Act} {w : World} {Q : Exit → Go.Act → World → Prop}
    (h : AtV M O N9 [2, 3, 4, 6, 8, 9, 12, 13] (vAZ mb now [.bool false, ptrE e]) (hAZ  most sw sw' key) [] (gMap mb clk Ls) a w)
    (k1 : ∀ a1 w1, AtV M O N9 [2, 3, 4, 6, 8, 9, 12] (vAZ mb now [.bool (decide (grownR now e.b ≥ 50000000))]) (hAZ  most sw sw' key) [] (gMap mb clk (Ls.map (askE now key))) a1 w1 → Q .normal a1 w1) : u9.wp Try.prog Q a w := by
  refine wp_items u9 (wpL_end ?_)
  have hcell : gMap mb clk Ls e.blk (.cells (ec e.b e.num)) := .inr ⟨e, he, rfl, rfl⟩
  have hbase := (h.known hcell).2
  have h4 := h.open hcell 1 rfl (V' := vAZ mb now [.bool false, .pointer (some ⟨4, 0, some 12⟩)])
    (by refine ⟨.inl rfl, .inl rfl, .inl rfl, .inl rfl, .inl rfl, .inl rfl, .inl rfl, .inr ⟨rfl, rfl⟩, trivial⟩)
  have hev : ∀ z, viewU [2, 3, 4, 6, 8, 9, 12] (evL Try.prog M (ovS shT Try.prog M) [] [] [] [92] 200 (items u9) ⟨mkT N9 [2, 3, 4, 6, 8, 9, 12, 13] (vAZ mb now [.bool false, .pointer (some ⟨4, 0, some 12⟩)]) z, hAZ  most sw sw' key ++ [some ⟨ec e.b e.num, false, 1, true⟩]⟩ [decide (grownR now e.b ≥ 50000000)])
      = some (.normal, vAZ mb now [.bool (decide (grownR now e.b ≥ 50000000))], hAZ  most sw sw' key ++ [some ⟨ec (askB now e.b) e.num, false, 1, true⟩], N9, [(decide (grownR now e.b ≥ 50000000), decide (grownR now e.b ≥ 50000000))]) := fun z => by
    unfold askB
    by_cases hg : grownR now e.b ≥ 50000000
    · have hd : decide (grownR now e.b ≥ 50000000) = true := decide_eq_true hg
      rw [if_pos hg]
      have := updtrueZ M  mb most sw now key z sw' e.b e.num
      rw [hd] at this ⊢
      exact this
    · have hd : decide (grownR now e.b ≥ 50000000) = false := decide_eq_false hg
      rw [if_neg hg]
      have := updfalseZ M  mb most sw now key z sw' e.b e.num
      rw [hd] at this ⊢
      exact this
  refine h4.items (ovS_ok shT _ _) nilC mix (fun c _ => hooksOk_nil c) hev (held_one rfl) rfl (fun _ a3 w3 h5 => ?_) fun hne => absurd rfl hne
  have h6 := (h5.close (H := hAZ  most sw sw' key) (l := ec (askB now e.b) e.num) (e := 1) (b := e.blk) (nm' := []) (List.mem_cons_self ..) hbase (fun p hp => by cases hp) (fun i o hi => by have := hget_lt hi; rw [hO] at this; simp at this ⊢; ) (i0 := 0) (o0 := bxV (.slice none 0 0) most sw) rfl (Nat.succ_pos 2) rfl
    (V' := vAZ mb now [.bool (decide (grownR now e.b ≥ 50000000))])
    (by refine ⟨.inl ⟨rfl, .inr rfl⟩, .inl ⟨rfl, .inl rfl⟩, .inl ⟨rfl, .inl rfl⟩, .inl ⟨rfl, .inl rfl⟩, .inl ⟨rfl, .inr rfl⟩, .inl ⟨rfl, .inl rfl⟩, .inl ⟨rfl, .inr rfl⟩, trivial⟩)).weaken (g' := gMap mb clk (Ls.map (askE now key))) (fun b' x hx => by
      rcases hx with ⟨h1, h2⟩ | ⟨e', he', h1, h2⟩
      · rw [mapO_ask] at h2
        exact .inl ⟨.inl ⟨h1, h2⟩, fun hb => blk_ne hok he (hb.symm.trans h1)⟩
      · obtain ⟨x', hx', rfl⟩ := List.mem_map.1 he'
        obtain ⟨q1, q2, q3⟩ := askE_same now key x'
        by_cases hxe : x' = e
        · subst hxe
          refine .inr ⟨h1.trans q3, ?_⟩
          rw [h2]
          unfold askE
          rw [if_pos hek]
        · have hne : x'.b.k ≠ key := fun hk => hxe (ent_of_key hok.apart hx' he (hk.trans hek.symm))
          have hsame : askE now key x' = x' := if_neg hne
          rw [hsame] at h1 h2
          exact .inl ⟨.inr ⟨x', hx', h1, h2⟩, fun hb => hxe (ent_of_blk hok hx' he (h1.symm.trans hb))⟩)
  exact k1 a3 w3 h6

theorem addZ (hO : O.h = []) (hclk : 0 = clk) {Ls : List Ent} (hok : MapOk mb clk Ls) (hkey : KeyOk key) (hnew : ∀ e ∈ Ls, e.b.k ≠ key) {a : Go.Act} {w : World} {Q : Exit → Go.Act → World → Prop}
    (h : AtV M O N9 [2, 3, 4, 6, 8, 9, 12] (vAZ mb now [.bool false]) (hAZ  most sw sw' key) [] (gMap mb clk Ls) a w)
    (k1 : ∀ blk, MapOk mb (clk + 1) (Ls ++ [⟨⟨key, 200000000, now⟩, clk, blk⟩]) → ∀ a1 w1, AtV M O N9 [2, 3, 4, 6, 8, 9, 12] (vAZ mb now [.bool true]) (hAZ  most sw sw' key) [] (gMap mb (clk + 1) (Ls ++ [⟨⟨key, 200000000, now⟩, clk, blk⟩])) a1 w1 → Q .normal a1 w1) : w9.wp Try.prog Q a w := by
  subst hclk
  refine wp_items w9 ?_
  rw [itemsW9]
  refine wpL_cons (R := fun a1 w1 => ∃ blk, MapOk mb (0 + 1) (Ls ++ [⟨⟨key, 200000000, now⟩, 0, blk⟩]) ∧ AtV M O N9 [2, 3, 4, 6, 8, 9, 12] (vAZ mb now [.bool false]) (hAZ  most sw sw' key) [] (gMap mb (0 + 1) (Ls ++ [⟨⟨key, 200000000, now⟩, 0, blk⟩])) a1 w1) (wp_rgn up21_f up21_r ?_) ?_
  · refine h.ops (K := fnsC []) (cl := fun l => l) (fnsC_sound nilC) (fun z => r21Z M  mb most sw now key z sw') rfl fun a1 w1 h1 => ?_
    have hw := (h1.known (b := mb) (x := .obj (mapO Ls 0)) (.inl ⟨rfl, rfl⟩)).1
    have hst : ∀ j oj, hget O.h j = some oj → ∃ o', hget (hAZ  most sw sw' key ++ [some ⟨ec ⟨key, 200000000, now⟩ ((0 : Nat) : Int), false, 1, true⟩]) j = some o' ∧ o'.cells.length = oj.cells.length := fun j oj hj => by
      rw [hO] at hj
      match j, hj with
      | 0, hj => cases hj
      | j + 1, hj => cases hj
    obtain ⟨blk, h2, hbase, hlt, hfree⟩ := h1.name (i := 4) (o := ⟨ec ⟨key, 200000000, now⟩ ((0 : Nat) : Int), false, 1, true⟩) rfl (by rw [hO]; rfl) hst
    have e1 : a1.eval (.tmp 108) = .map (some mb) := h2.eval (fun z => by kernel_rfl) rfl
    have e2 : a1.eval (.tmp 109) = kv key := h2.eval (fun z => by kernel_rfl) rfl
    have e3 : a1.eval (.tmp 117) = .pointer (some ⟨blk, 0, none⟩) := h2.addr (i := 4) (n := 12) (by simp) rfl rfl (fun z => by kernel_rfl)
    refine wpOps_skip up21_o up21_g (ex_update up21_p (by rw [e1, e2, e3]; exact run_update (b := ⟨key, 200000000, now⟩) hw hok.keys hkey hnew blk)) ?_
    rw [up21_d]
    have h3 := h2.set (g' := fun x y => (x = mb ∧ y = .obj (mapO (Ls ++ [⟨⟨key, 200000000, now⟩, 0, blk⟩]) (0 + 1))) ∨ ∃ e ∈ Ls, x = e.blk ∧ y = .cells (ec e.b e.num)) (b := mb) (y := .obj (mapO Ls 0)) (.inl ⟨rfl, rfl⟩) (mapO (Ls ++ [⟨⟨key, 200000000, now⟩, 0, blk⟩]) (0 + 1)) (fun b' x hx => by
      rcases hx with ⟨h1, h2⟩ | ⟨e, he, h1, h2⟩
      · exact .inr ⟨h1, h2⟩
      · exact .inl ⟨fun hm => blk_ne hok he (h1.symm.trans hm), .inr ⟨e, he, h1, h2⟩⟩)
    have h4 := h3.live (live' := [2, 3, 4, 6, 8, 9, 12]) (V' := vAZ mb now [.bool false]) (fun z => by kernel_rfl)
    have h5 := h4.close (H := hAZ  most sw sw' key) (l := ec ⟨key, 200000000, now⟩ ((0 : Nat) : Int)) (e := 1) (b := blk) (nm' := []) (List.mem_cons_self ..) hbase (fun p hp => by cases hp) (fun i o hi => by have := hget_lt hi; rw [hO] at this; simp at this ⊢; ) (i0 := 0) (o0 := bxV (.slice none 0 0) most sw) rfl (Nat.succ_pos 2) rfl
      (V' := vAZ mb now [.bool false]) (by refine ⟨.inl ⟨rfl, .inr rfl⟩, .inl ⟨rfl, .inl rfl⟩, .inl ⟨rfl, .inl rfl⟩, .inl ⟨rfl, .inl rfl⟩, .inl ⟨rfl, .inr rfl⟩, .inl ⟨rfl, .inl rfl⟩, .inl ⟨rfl, .inr rfl⟩, trivial⟩)
    refine ⟨rfl, blk, ⟨?_, ?_, ?_, ?_, ?_⟩, h5.weaken fun b' x hx => ?_⟩
    · intro e he
      rcases List.mem_append.1 he with he | he
      · exact hok.keys e he
      · simp at he; subst he; exact hkey
    · exact List.pairwise_append.2 ⟨hok.apart, by simp, fun x hx y hy => by simp at hy; subst hy; exact hnew x hx⟩
    · rw [List.map_append, ← List.cons_append]
      refine List.nodup_append.2 ⟨hok.blks, by simp, fun x hx y hy => ?_⟩
      simp at hy; subst hy
      intro hxy; subst hxy
      rcases List.mem_cons.1 hx with rfl | hx
      · exact hfree _ (.inl ⟨rfl, rfl⟩)
      · obtain ⟨e, he, hee⟩ := List.mem_map.1 hx
        exact hfree _ (.inr ⟨e, he, hee.symm, rfl⟩)
    · exact List.pairwise_append.2 ⟨hok.nums, by simp, fun x hx y hy => by simp at hy; subst hy; exact hok.clk x hx⟩
    · intro e he
      rcases List.mem_append.1 he with he | he
      · have := hok.clk e he; omega
      · simp at he; subst he; simp
    · rcases hx with ⟨h1, h2⟩ | ⟨e, he, h1, h2⟩
      · exact .inl (.inl ⟨h1, h2⟩)
      · rcases List.mem_append.1 he with he | he
        · exact .inl (.inr ⟨e, he, h1, h2⟩)
        · simp at he; subst he; exact .inr ⟨h1, h2⟩
  · rintro a1 w1 ⟨blk, hok', h1⟩
    show wpL Try.prog _ ([itemN w9 1] ++ []) a1 w1
    exact h1.items (ovS_ok shT _ _) nilC mix (fun c _ => hooksOk_nil c) (fun z => r22Z M  mb most sw now key z sw') (fun x hx => by cases hx) rfl (fun _ a2 w2 h2 => k1 blk hok' a2 w2 h2) fun hne => absurd rfl hne

/-- The question, whatever the map holds. -/
theorem askZ (hO : O.h = []) (hclk : 0 = clk) {Ls : List Ent} (hok : MapOk mb clk Ls) (hkey : KeyOk key) {a : Go.Act} {w : World} {Q : Exit → Go.Act → World → Prop} {rest : List Code}
    (h : AtV M O N9 [2, 3, 4, 6, 8, 9] (vAZ mb now []) (hAZ  most sw sw' key) [] (gMap mb clk Ls) a w)
    (k1 : ∀ b clk' L2, AskR most now key clk Ls b clk' L2 → MapOk mb clk' L2 → ∀ a1 w1, AtV M O N9 [2, 3, 4, 6, 8, 9, 12] (vAZ mb now [.bool b]) (hAZ  most sw sw' key) [] (gMap mb clk' L2) a1 w1 → wpL Try.prog Q rest a1 w1) :
    wpL Try.prog Q (itemN c9 7 :: itemN c9 8 :: itemN c9 9 :: .cond (.tmp 58) u9 v9 :: rest) a w := by
  show wpL Try.prog Q ([itemN c9 7] ++ (itemN c9 8 :: itemN c9 9 :: .cond (.tmp 58) u9 v9 :: rest)) a w
  refine h.items (ovS_ok shT _ _) nilC mix (fun c _ => hooksOk_nil c) (fun z => r12Z M  mb most sw now key z sw') (fun x hx => by cases hx) rfl (fun _ a1 w1 h1 => ?_) fun hne => absurd rfl hne
  show (itemN c9 8).wp Try.prog (Exit.then (wpL Try.prog Q (itemN c9 9 :: .cond (.tmp 58) u9 v9 :: rest)) Q) a1 w1
  refine wp_rgn lk13_f lk13_r ?_
  refine h1.ops (K := fnsC []) (cl := fun l => l) (fnsC_sound nilC) (fun z => r13Z M  mb most sw now key z sw') rfl fun a2 w2 h2 => ?_
  have hw := (h2.known (b := mb) (x := .obj (mapO Ls clk)) (.inl ⟨rfl, rfl⟩)).1
  have e1 : a2.eval (.tmp 54) = .map (some mb) := h2.eval (fun z => by kernel_rfl) rfl
  have e2 : a2.eval (.tmp 55) = kv key := h2.eval (fun z => by kernel_rfl) rfl
  rcases run_lookup hw hok.keys hkey with ⟨hr, hne⟩ | ⟨j, e, hr, hj, hek⟩
  · refine wpOps_value lk13_o lk13_g (ex_lookup lk13_p (by rw [e1, e2]; exact hr)) ?_
    rw [lk13_d]
    have h3 := h2.put (some 56) (v := .pointer none) rfl (fun z => put56Z mb now key z _)
    refine h3.ops (K := fnsC []) (cl := fun l => l) (fnsC_sound nilC) (fun z => a13Z M  mb most sw now key z sw' _) rfl fun a3 w3 h4 => ?_
    show wpL Try.prog Q ([itemN c9 9] ++ (.cond (.tmp 58) u9 v9 :: rest)) a3 w3
    refine h4.items (ovS_ok shT _ _) nilC mix (fun c _ => hooksOk_nil c) (fun z => r14fZ M  mb most sw now key z sw') (fun x hx => by cases hx) rfl (fun _ a4 w4 h5 => ?_) fun hne => absurd rfl hne
    have e3 : a4.eval (.tmp 58) = .bool false := h5.eval (fun z => by kernel_rfl) rfl
    show (Code.cond (.tmp 58) u9 v9).wp Try.prog (Exit.then (wpL Try.prog Q rest) Q) a4 w4
    refine wp_cond_false e3 (wp_items v9 ?_)
    rw [itemsV9]
    have h6 := h5.live (live' := [2, 3, 4, 6, 8, 9, 12]) (V' := vAZ mb now [.bool false]) (fun z => by kernel_rfl)
    show (itemN v9 0).wp Try.prog (Exit.then (wpL Try.prog _ [.cond (.tmp 107) w9 .skip]) _) a4 w4
    refine wp_rgn ln20_f ln20_r ?_
    refine h6.ops (K := fnsC []) (cl := fun l => l) (fnsC_sound nilC) (fun z => r20Z M  mb most sw now key z sw') rfl fun a5 w5 h7 => ?_
    have hw5 := (h7.known (b := mb) (x := .obj (mapO Ls clk)) (.inl ⟨rfl, rfl⟩)).1
    have e4 : a5.eval (.tmp 103) = .map (some mb) := h7.eval (fun z => by kernel_rfl) rfl
    refine wpOps_value ln20_o ln20_g (ex_len ln20_p (by rw [e4]; exact run_len hw5 _)) ?_
    rw [ln20_d]
    have h8 := h7.put (some 104) (v := .int .i64 Ls.length) rfl (fun z => put104Z mb now z _)
    by_cases hl : (Ls.length : Int) < most
    · refine h8.opsU (ovS_ok shT _ _) nilC (fun z => c20trueZ M  mb most sw now key z sw' Ls.length) (held_one (decide_eq_true hl)) rfl fun a6 w6 h9 => ?_
      have e5 : a6.eval (.tmp 107) = .bool true := h9.eval (fun z => by kernel_rfl) rfl
      show (Code.cond (.tmp 107) w9 .skip).wp Try.prog _ a6 w6
      have h10 := h9.live (live' := [2, 3, 4, 6, 8, 9, 12]) (V' := vAZ mb now [.bool false]) (fun z => by kernel_rfl)
      exact wp_cond_true e5 (addZ hO hclk hok hkey hne h10 fun blk hok' a7 w7 h11 => k1 _ _ _ (.new blk hne hl) hok' a7 w7 h11)
    · refine h8.opsU (ovS_ok shT _ _) nilC (fun z => c20falseZ M  mb most sw now key z sw' Ls.length) (held_one (decide_eq_false hl)) rfl fun a6 w6 h9 => ?_
      have e5 : a6.eval (.tmp 107) = .bool false := h9.eval (fun z => by kernel_rfl) rfl
      show (Code.cond (.tmp 107) w9 .skip).wp Try.prog _ a6 w6
      have h10 := h9.live (live' := [2, 3, 4, 6, 8, 9, 12]) (V' := vAZ mb now [.bool false]) (fun z => by kernel_rfl)
      exact wp_cond_false e5 (wp_skip (k1 _ _ _ (.full hne hl) hok a6 w6 h10))
  · have he := List.mem_of_getElem? hj
    refine wpOps_value lk13_o lk13_g (ex_lookup lk13_p (by rw [e1, e2]; exact hr)) ?_
    rw [lk13_d]
    have h3 := h2.put (some 56) (v := ptrE e) rfl (fun z => put56Z mb now key z _)
    refine h3.ops (K := fnsC []) (cl := fun l => l) (fnsC_sound nilC) (fun z => a13Z M  mb most sw now key z sw' _) rfl fun a3 w3 h4 => ?_
    show wpL Try.prog Q ([itemN c9 9] ++ (.cond (.tmp 58) u9 v9 :: rest)) a3 w3
    refine h4.items (ovS_ok shT _ _) nilC mix (fun c _ => hooksOk_nil c) (fun z => r14tZ M  mb most sw now key z sw' e.blk) (fun x hx => by cases hx) rfl (fun _ a4 w4 h5 => ?_) fun hne => absurd rfl hne
    have e3 : a4.eval (.tmp 58) = .bool true := h5.eval (fun z => by kernel_rfl) rfl
    show (Code.cond (.tmp 58) u9 v9).wp Try.prog (Exit.then (wpL Try.prog Q rest) Q) a4 w4
    have h6 := h5.live (live' := [2, 3, 4, 6, 8, 9, 12, 13]) (V' := vAZ mb now [.bool false, ptrE e]) (fun z => by kernel_rfl)
    exact wp_cond_true e3 (updZ hO hok he hek h6 fun a7 w7 h7 => k1 _ _ _ (.found e he hek) (hok.ask now key) a7 w7 h7)
end
end Go.Proofs.Ytfkdcpinajnbfaa
