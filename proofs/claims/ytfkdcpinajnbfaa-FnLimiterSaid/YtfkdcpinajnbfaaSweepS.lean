/- The limiter's Allow: idle buckets are struck out (variant S).
   Conditions: keys of bytes. -/
import Derived.Test.YtfkdcpinajnbfaaWalkC
import Derived.Test.YtfkdcpinajnbfaaAllowES
open Go.Ab
set_option linter.unusedVariables false
set_option linter.unusedSimpArgs false
namespace Go.Proofs.Ytfkdcpinajnbfaa
open Go.ChangeMaps (setBlock)
set_option maxRecDepth 100000

/-- Idle for longer than is kept. -/
def idle (now : Int) (e : Ent) : Bool := decide (IntKind.i64.wrap (now - e.b.last) > 1000000000)
def keepE (now : Int) (S : List Nat) (e : Ent) : Bool := !(S.contains e.num && idle now e)

theorem idleP_held (now x : Int) (b : Bool) (h : decide (IntKind.i64.wrap (now - x) > 1000000000) = b) : Held (idleP x now b) := held_one h

theorem keep_nil (now : Int) (L : List Ent) : L.filter (keepE now []) = L := List.filter_eq_self.2 fun e _ => by simp [keepE]
theorem keep_all (now : Int) {L : List Ent} {S : List Nat} (h : ∀ e ∈ L, e.num ∈ S) : L.filter (keepE now S) = L.filter fun e => !idle now e := List.filter_congr fun e he => by
  have := h e he
  simp [keepE, this]
theorem keep_in {now : Int} {L : List Ent} {S : List Nat} {e : Ent} (he : e ∈ L) (hs : e.num ∉ S) : e ∈ L.filter (keepE now S) := List.mem_filter.2 ⟨he, by simp [keepE, hs]⟩
theorem keep_idle {now : Int} {mb clk : Nat} {L : List Ent} (hok : MapOk mb clk L) {S : List Nat} {e : Ent} (he : e ∈ L) (hi : idle now e = true) : (L.filter (keepE now S)).filter (fun x => !decide (x.b.k = e.b.k)) = L.filter (keepE now (S ++ [e.num])) := by
  rw [List.filter_filter]
  refine List.filter_congr fun x hx => ?_
  by_cases hxe : x = e
  · subst hxe; simp [keepE, hi]
  · have h1 : x.b.k ≠ e.b.k := fun h => hxe (ent_of_key hok.apart hx he h)
    have h2 : x.num ≠ e.num := fun h => hxe (ent_of_num hok.nums hx he h)
    simp [keepE, h1, h2]
theorem keep_busy {now : Int} {mb clk : Nat} {L : List Ent} (hok : MapOk mb clk L) {S : List Nat} {e : Ent} (he : e ∈ L) (hi : idle now e = false) : L.filter (keepE now S) = L.filter (keepE now (S ++ [e.num])) := by
  refine List.filter_congr fun x hx => ?_
  by_cases hxe : x = e
  · subst hxe; simp [keepE, hi]
  · have h2 : x.num ≠ e.num := fun h => hxe (ent_of_num hok.nums hx he h)
    simp [keepE, h2]

section
variable {M : Mem} {O : Org} {R : List Value} {gr : Bool} {es n c : Nat} {mb clk it : Nat} {most sw now : Int} {key : Key}

structure SwIS (M : Mem) (O : Org) (R : List Value) (gr : Bool) (es n c : Nat) (mb clk it : Nat) (most sw now : Int) (key : Key) (Ls : List Ent) (S : List Nat) (a : Go.Act) (w : World) : Prop where
  nod : S.Nodup
  sub : ∀ s ∈ S, s ∈ Ls.map (·.num)
  at_ : AtV M O N9 [2, 3, 4, 6, 8, 9, 36] (vAS mb now [.pointer (some ⟨it, 0, none⟩)]) (hAS R gr es n c most sw sw key) [] (gIt mb clk (Ls.filter (keepE now S)) it S) a w

/-- One step: an entry comes that has not come yet; or none is left. -/
theorem stepS {Ls : List Ent} (hok : MapOk mb clk Ls) (hit : it ≠ mb ∧ ∀ e ∈ Ls, it ≠ e.blk) {S : List Nat} {a : Go.Act} {w : World} (I : SwIS M O R gr es n c mb clk it most sw now key Ls S a w) {Q : Exit → Go.Act → World → Prop} {rest : List Code}
    (k1 : ∀ e, e ∈ Ls → e.num ∉ S → ∀ a1 w1, AtV M O N9 [2, 3, 4, 6, 8, 9, 36] (vAS mb now [.pointer (some ⟨it, 0, none⟩)]) (hAS R gr es n c most sw sw key) [] (gIt mb clk (Ls.filter (keepE now S)) it (S ++ [e.num])) a1 w1 → wpL Try.prog Q rest a1 w1)
    (k2 : (∀ e ∈ Ls, e.num ∈ S) → ∀ a1 w1, AtV M O N9 [2, 3, 4, 6, 8, 9, 36] (vAS mb now [.pointer (some ⟨it, 0, none⟩)]) (hAS R gr es n c most sw sw key) [] (gIt mb clk (Ls.filter (keepE now S)) it S) a1 w1 → Q (.exit 0) a1 w1) :
    wpL Try.prog Q (itemN l9 0 :: itemN l9 1 :: rest) a w := by
  have hokc := hok.filter (keepE now S)
  show (itemN l9 0).wp Try.prog (Exit.then (wpL Try.prog Q (itemN l9 1 :: rest)) Q) a w
  refine wp_rgn nx7_f nx7_r ?_
  have hw := (I.at_.known (b := mb) (x := .obj (mapO (Ls.filter (keepE now S)) clk)) (.inl (.inl ⟨rfl, rfl⟩))).1
  have hi := (I.at_.known (b := it) (x := .obj (itO mb clk S)) (.inr ⟨rfl, rfl⟩)).1
  have e1 : a.eval (.tmp 36) = .pointer (some ⟨it, 0, none⟩) := I.at_.eval (fun z => by kernel_rfl) rfl
  rcases run_nextM hw hi hokc.clk (opAt (itemN l9 0) 0).type with ⟨hall, hr⟩ | ⟨e, he, hes, w1, hw1, hr⟩
  · refine wpOps_value nx7_o nx7_g (ex_next nx7_p (by rw [e1]; exact hr)) ?_
    rw [nx7_d]
    have h2 := I.at_.put (some 37) (v := .tuple #[.bool false]) rfl (fun z => put37S mb now z it _)
    refine h2.opsU (ovS_ok shT _ _) nilC (fun z => x7fS M R gr es n c mb most sw now key z it) (fun x hx => by cases hx) rfl fun a2 w2 h3 => ?_
    refine h3.items (cs := [itemN l9 1]) (ovS_ok shT _ _) nilC mix (fun c _ => hooksOk_nil c) (fun z => i7fS M R gr es n c mb most sw now key z it) (fun x hx => by cases hx) rfl (fun he => by cases he) fun _ a3 w3 h4 => k2 (fun e he => ?_) a3 w3 h4
    by_cases hs : e.num ∈ S
    · exact hs
    · exact hall e (keep_in he hs)
  · refine wpOps_value nx7_o nx7_g (ex_next nx7_p (by rw [e1]; exact hr)) ?_
    rw [nx7_d]
    have heL := (List.mem_filter.1 he).1
    have h1 : AtV M O N9 [2, 3, 4, 6, 8, 9, 36] (vAS mb now [.pointer (some ⟨it, 0, none⟩)]) (hAS R gr es n c most sw sw key) [] (gIt mb clk (Ls.filter (keepE now S)) it S) a w1 := by
      rcases hw1 with rfl | rfl
      · exact I.at_
      · exact I.at_.drew (w.drawn + 1)
    have h2 := (h1.set (g' := gIt mb clk (Ls.filter (keepE now S)) it (S ++ [e.num])) (b := it) (y := .obj (itO mb clk S)) (.inr ⟨rfl, rfl⟩) (itO mb clk (S ++ [e.num])) (fun b' x hx => by
      rcases hx with hx | ⟨h1, h2⟩
      · refine .inl ⟨fun hb => ?_, .inl hx⟩
        rcases hx with ⟨h3, _⟩ | ⟨e', he', h3, _⟩
        · exact hit.1 (hb.symm.trans h3)
        · exact hit.2 e' (List.mem_filter.1 he').1 (hb.symm.trans h3)
      · exact .inr ⟨h1, h2⟩)).put (some 37) (v := .tuple #[.bool true, kv e.b.k, ptrE e]) rfl (fun z => put37S mb now z it _)
    refine h2.opsU (ovS_ok shT _ _) nilC (fun z => x7tS M R gr es n c mb most sw now key z it _ _) (fun x hx => by cases hx) rfl fun a2 w2 h3 => ?_
    exact h3.items (cs := [itemN l9 1]) (ovS_ok shT _ _) nilC mix (fun c _ => hooksOk_nil c) (fun z => i7tS M R gr es n c mb most sw now key z it) (fun x hx => by cases hx) rfl (fun _ a3 w3 h4 => k1 e heL hes a3 w3 h4) fun hne => absurd rfl hne

/-- What is done with it. -/
theorem strikeS (hO : O.h = [some ⟨R, gr, es, true⟩]) {Ls : List Ent} (hok : MapOk mb clk Ls) (hit : it ≠ mb ∧ ∀ e ∈ Ls, it ≠ e.blk) {S : List Nat} {e : Ent} (he : e ∈ Ls) (hes : e.num ∉ S) {a : Go.Act} {w : World}
    (h : AtV M O N9 [2, 3, 4, 6, 8, 9, 36] (vAS mb now [.pointer (some ⟨it, 0, none⟩)]) (hAS R gr es n c most sw sw key) [] (gIt mb clk (Ls.filter (keepE now S)) it (S ++ [e.num])) a w) {Q : Exit → Go.Act → World → Prop}
    (k1 : ∀ a1 w1, AtV M O N9 [2, 3, 4, 6, 8, 9, 36] (vAS mb now [.pointer (some ⟨it, 0, none⟩)]) (hAS R gr es n c most sw sw key) [] (gIt mb clk (Ls.filter (keepE now (S ++ [e.num]))) it (S ++ [e.num])) a1 w1 → Q .normal a1 w1) :
    wpL Try.prog Q (items e9) a w := by
  have hokc := hok.filter (keepE now S)
  have hec := keep_in (now := now) he hes
  rw [itemsE9]
  show (itemN e9 0).wp Try.prog (Exit.then (wpL Try.prog Q [itemN e9 1, .cond (.tmp 49) (thenC (itemN e9 2)) .skip]) Q) a w
  refine wp_rgn en8_f en8_r ?_
  have hw := (h.known (b := mb) (x := .obj (mapO (Ls.filter (keepE now S)) clk)) (.inl (.inl ⟨rfl, rfl⟩))).1
  have hi := (h.known (b := it) (x := .obj (itO mb clk (S ++ [e.num]))) (.inr ⟨rfl, rfl⟩)).1
  have e1 : a.eval (.tmp 36) = .pointer (some ⟨it, 0, none⟩) := h.eval (fun z => by kernel_rfl) rfl
  refine wpOps_value en8_o en8_g (ex_entry en8_p (by rw [e1]; exact run_entryM hw hi hec hokc.nums)) ?_
  rw [en8_d]
  have h2 := h.put (some 39) (v := .tuple #[kv e.b.k, ptrE e]) rfl (fun z => put39S mb now z it _)
  refine h2.ops (K := fnsC []) (cl := fun l => l) (fnsC_sound nilC) (fun z => r8S M R gr es n c mb most sw now key z it e.b.k e.blk) rfl fun a2 w2 h3 => ?_
  have hcell : gIt mb clk (Ls.filter (keepE now S)) it (S ++ [e.num]) e.blk (.cells (ec e.b e.num)) := .inl (.inr ⟨e, hec, rfl, rfl⟩)
  have hbase := (h3.known hcell).2
  have h4 := h3.open hcell 1 rfl (V' := vAS mb now [.pointer (some ⟨it, 0, none⟩), .pointer (some ⟨5, 0, some 9⟩), .pointer (some ⟨6, 0, some 12⟩)])
    (by refine ⟨.inl rfl, .inl rfl, .inl rfl, .inl rfl, .inl rfl, .inl rfl, .inl rfl, .inl rfl, .inr ⟨rfl, rfl⟩, trivial⟩)
  have key9 : ∀ b, idle now e = b → wpL Try.prog Q [itemN e9 1, .cond (.tmp 49) (thenC (itemN e9 2)) .skip] a2 w2 := fun b hb => by
    show wpL Try.prog Q ([itemN e9 1] ++ [.cond (.tmp 49) (thenC (itemN e9 2)) .skip]) a2 w2
    have hev : ∀ z, viewU [2, 3, 4, 6, 8, 9, 36, 10, 11, 49] (evL Try.prog M (ovS shT Try.prog M) [] [] [] [49] 200 [itemN e9 1] ⟨mkT N9 [2, 3, 4, 6, 8, 9, 36, 10, 11] (vAS mb now [.pointer (some ⟨it, 0, none⟩), .pointer (some ⟨5, 0, some 9⟩), .pointer (some ⟨6, 0, some 12⟩)]) z, hAS R gr es n c most sw sw key ++ [some ⟨kc e.b.k, false, 1, true⟩] ++ [some ⟨ec e.b e.num, false, 1, true⟩]⟩ [b])
       = some (.normal, vAS mb now [.pointer (some ⟨it, 0, none⟩), .pointer (some ⟨5, 0, some 9⟩), .pointer (some ⟨6, 0, some 12⟩), .bool b], hAS R gr es n c most sw sw key ++ [some ⟨kc e.b.k, false, 1, true⟩] ++ [some ⟨ec e.b e.num, false, 1, true⟩], N9, idleP e.b.last now b) := fun z => by
      cases b with
      | true => exact r9trueS M R gr es n c mb most sw now key z it e.b.k e.b e.num
      | false => exact r9falseS M R gr es n c mb most sw now key z it e.b.k e.b e.num
    refine h4.items (ovS_ok shT _ _) nilC mix (fun c _ => hooksOk_nil c) hev (idleP_held now _ b hb) rfl (fun _ a3 w3 h5 => ?_) fun hne => absurd rfl hne
    have h6 := (h5.close (H := hAS R gr es n c most sw sw key ++ [some ⟨kc e.b.k, false, 1, true⟩]) (l := ec e.b e.num) (e := 1) (b := e.blk) (nm' := []) (List.mem_cons_self ..) hbase (fun p hp => by cases hp) (fun i o hi => by have := hget_lt hi; rw [hO] at this; simp at this ⊢; omega) (i0 := 1) (o0 := bxV (slR n c) most sw) rfl (Nat.succ_pos 2) rfl
      (V' := vAS mb now [.pointer (some ⟨it, 0, none⟩), .pointer (some ⟨5, 0, some 9⟩), ptrE e, .bool b])
      (by refine ⟨.inl ⟨rfl, .inr rfl⟩, .inl ⟨rfl, .inl rfl⟩, .inl ⟨rfl, .inl rfl⟩, .inl ⟨rfl, .inl rfl⟩, .inl ⟨rfl, .inr rfl⟩, .inl ⟨rfl, .inl rfl⟩, .inl ⟨rfl, .inr rfl⟩, .inl ⟨rfl, .inl rfl⟩, .inr ⟨rfl, rfl⟩, .inl ⟨rfl, .inr rfl⟩, trivial⟩)).weaken (g' := gIt mb clk (Ls.filter (keepE now S)) it (S ++ [e.num])) (fun b' x hx => by
        by_cases hb : b' = e.blk
        · refine .inr ⟨hb, ?_⟩
          rcases hx with (⟨h1, h2⟩ | ⟨e', he', h1, h2⟩) | ⟨h1, h2⟩
          · exact absurd (hb.symm.trans h1) (blk_ne hok he)
          · have : e' = e := ent_of_blk hokc he' hec (h1.symm.trans hb)
            rw [h2, this]
          · exact absurd (h1.symm.trans hb) (hit.2 e he)
        · exact .inl ⟨hx, hb⟩)
    have e2 : a3.eval (.tmp 49) = .bool b := h6.eval (fun z => by kernel_rfl) rfl
    cases b with
    | false =>
      show (Code.cond (.tmp 49) (thenC (itemN e9 2)) .skip).wp Try.prog (Exit.then (wpL Try.prog Q []) Q) a3 w3
      refine wp_cond_false e2 (wp_skip ?_)
      have h7 := h6.live (live' := [2, 3, 4, 6, 8, 9, 36]) (V' := vAS mb now [.pointer (some ⟨it, 0, none⟩)]) (fun z => by kernel_rfl)
      have h8 := h7.compact (keep := [0, 1, 2, 3, 4]) (i0 := 1) (V' := vAS mb now [.pointer (some ⟨it, 0, none⟩)]) (lo := (hAS R gr es n c most sw sw key).filterMap id) (by kernel_rfl) (fun i hi => by rw [hO] at hi; simp at hi ; subst hi; rfl)
      rw [keep_busy hok he hb] at h8
      exact k1 a3 w3 h8
    | true =>
      show (Code.cond (.tmp 49) (thenC (itemN e9 2)) .skip).wp Try.prog (Exit.then (wpL Try.prog Q []) Q) a3 w3
      refine wp_cond_true e2 (wp_rgn del10_f del10_r ?_)
      have h7 := h6.live (live' := [2, 3, 4, 6, 8, 9, 36, 10]) (V' := vAS mb now [.pointer (some ⟨it, 0, none⟩), .pointer (some ⟨5, 0, some 9⟩)]) (fun z => by kernel_rfl)
      refine h7.ops (K := fnsC []) (cl := fun l => l) (fnsC_sound nilC) (fun z => r10S M R gr es n c mb most sw now key z it e.b.k) rfl fun a4 w4 h8 => ?_
      have hw4 := (h8.known (b := mb) (x := .obj (mapO (Ls.filter (keepE now S)) clk)) (.inl (.inl ⟨rfl, rfl⟩))).1
      have e3 : a4.eval (.tmp 50) = .map (some mb) := h8.eval (fun z => by kernel_rfl) rfl
      have e4 : a4.eval (.tmp 51) = kv e.b.k := h8.eval (fun z => by kernel_rfl) rfl
      refine wpOps_value del10_o del10_g (ex_delete del10_p (by rw [e3, e4]; exact run_delete hw4 hokc.keys hokc.apart (hok.keys e he) ⟨e, hec, rfl⟩ _)) ?_
      rw [del10_d]
      have h9 := h8.set (g' := gIt mb clk (Ls.filter (keepE now (S ++ [e.num]))) it (S ++ [e.num])) (b := mb) (y := .obj (mapO (Ls.filter (keepE now S)) clk)) (.inl (.inl ⟨rfl, rfl⟩)) (mapO ((Ls.filter (keepE now S)).filter fun x => !decide (x.b.k = e.b.k)) clk) (fun b' x hx => by
        rcases hx with (⟨h1, h2⟩ | ⟨e', he', h1, h2⟩) | ⟨h1, h2⟩
        · exact .inr ⟨h1, by rw [h2, keep_idle hok he hb]⟩
        · refine .inl ⟨fun hm => blk_ne hok (List.mem_filter.1 he').1 (h1.symm.trans hm), .inl (.inr ⟨e', ?_, h1, h2⟩)⟩
          rw [← keep_idle hok he hb] at he'
          exact (List.mem_filter.1 he').1
        · exact .inl ⟨fun hm => hit.1 (h1.symm.trans hm), .inr ⟨h1, h2⟩⟩)
      have h10 := h9.live (live' := [2, 3, 4, 6, 8, 9, 36]) (V' := vAS mb now [.pointer (some ⟨it, 0, none⟩)]) (fun z => by kernel_rfl)
      have h11 := h10.compact (keep := [0, 1, 2, 3, 4]) (i0 := 1) (V' := vAS mb now [.pointer (some ⟨it, 0, none⟩)]) (lo := (hAS R gr es n c most sw sw key).filterMap id) (by kernel_rfl) (fun i hi => by rw [hO] at hi; simp at hi ; subst hi; rfl)
      exact k1 _ _ h11
  exact key9 _ rfl
end
end Go.Proofs.Ytfkdcpinajnbfaa
