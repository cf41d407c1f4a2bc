/- The limiter's Allow: the entries are listed, in whatever order the map hands them out (variant S).
   Conditions: keys of bytes. -/
import Derived.Test.YtfkdcpinajnbfaaAskS
open Go.Ab
set_option linter.unusedVariables false
set_option linter.unusedSimpArgs false
namespace Go.Proofs.Ytfkdcpinajnbfaa
open Go.ChangeMaps (setBlock)
set_option maxRecDepth 100000

/-- The list's cells behind some entries, of m. -/
def lstC (Pk : List Ent) (m : Nat) : List Value := Pk.map ptrE ++ List.replicate (m - Pk.length) (.pointer none)
theorem lstC_length {Pk : List Ent} {m : Nat} (h : Pk.length ≤ m) : (lstC Pk m).length = m := by simp [lstC]; omega
theorem lstC_ground (Pk : List Ent) (m : Nat) : groundL (lstC Pk m) = true := (groundL_iff _).2 fun v hv => by
  rcases List.mem_append.1 hv with hv | hv
  · obtain ⟨e, _, rfl⟩ := List.mem_map.1 hv; rfl
  · rw [(List.mem_replicate.1 hv).2]; rfl
theorem lstC_wr {Pk : List Ent} {m : Nat} {e : Ent} (h : Pk.length < m) : wr (lstC Pk m) (0 + Pk.length * 1) [ptrE e] = lstC (Pk ++ [e]) m := by
  have e0 : m - Pk.length = (m - (Pk.length + 1)) + 1 := by omega
  simp only [wr, lstC, Nat.zero_add, Nat.mul_one, List.map_append, List.map_cons, List.map_nil, List.length_append, List.length_cons, List.length_nil]
  rw [e0, List.replicate_succ, List.set_append, if_neg (by simp), List.length_map, Nat.sub_self, List.set_cons_zero, List.append_assoc]
  rfl
theorem lstC_zero (m : Nat) : zcells [.pointer none] m = lstC [] m := by
  simp only [lstC, List.map_nil, List.nil_append, List.length_nil, Nat.sub_zero]
  induction m with
  | zero => rfl
  | succ m ih => rw [List.replicate_succ, ← ih]; rfl

section
variable {M : Mem} {O : Org} {R : List Value} {gr : Bool} {es n c : Nat} {mb clk it : Nat} {most sw sw' now : Int} {key : Key} {b : Bool}

abbrev hLS (R : List Value) (gr : Bool) (es n c : Nat) (most sw sw' : Int) (key : Key) (C : List Value) : AHeap := hAS R gr es n c most sw sw' key ++ [some ⟨C, true, 1, true⟩]

structure PkIS (M : Mem) (O : Org) (R : List Value) (gr : Bool) (es n c : Nat) (mb clk it : Nat) (most sw sw' now : Int) (key : Key) (b : Bool) (L : List Ent) (Pk : List Ent) (a : Go.Act) (w : World) : Prop where
  nod : (Pk.map (·.num)).Nodup
  sub : ∀ e ∈ Pk, e ∈ L
  at_ : AtV M O N9 [2, 3, 4, 6, 8, 9, 12, 14, 122] (vAS mb now [.bool b, .slice (some ⟨5, 0, some L.length⟩) Pk.length L.length, .pointer (some ⟨it, 0, none⟩)]) (hLS R gr es n c most sw sw' key (lstC Pk L.length)) [] (gIt mb clk L it (Pk.map (·.num))) a w

theorem pickS (hO : O.h = [some ⟨R, gr, es, true⟩]) {L : List Ent} (hok : MapOk mb clk L) (hit : it ≠ mb ∧ ∀ e ∈ L, it ≠ e.blk) {Pk : List Ent} {a : Go.Act} {w : World} (I : PkIS M O R gr es n c mb clk it most sw sw' now key b L Pk a w) :
    m9.wp Try.prog (fun e a1 w1 => (e = .normal ∧ ∃ x, x ∈ L ∧ x.num ∉ Pk.map (·.num) ∧ PkIS M O R gr es n c mb clk it most sw sw' now key b L (Pk ++ [x]) a1 w1) ∨ (e = .exit 2 ∧ (∀ e ∈ L, e.num ∈ Pk.map (·.num)) ∧ PkIS M O R gr es n c mb clk it most sw sw' now key b L Pk a1 w1)) a w := by
  refine wp_items m9 ?_
  rw [itemsM9]
  show (itemN m9 0).wp Try.prog (Exit.then (wpL Try.prog _ [itemN m9 1, .block 3 f9]) _) a w
  refine wp_rgn nx25_f nx25_r ?_
  have hw := (I.at_.known (b := mb) (x := .obj (mapO L clk)) (.inl (.inl ⟨rfl, rfl⟩))).1
  have hi := (I.at_.known (b := it) (x := .obj (itO mb clk (Pk.map (·.num)))) (.inr ⟨rfl, rfl⟩)).1
  have e1 : a.eval (.tmp 122) = .pointer (some ⟨it, 0, none⟩) := I.at_.eval (fun z => by kernel_rfl) rfl
  rcases run_nextM hw hi hok.clk (opAt (itemN m9 0) 0).type with ⟨hall, hr⟩ | ⟨e, he, hes, w1, hw1, hr⟩
  · refine wpOps_value nx25_o nx25_g (ex_next nx25_p (by rw [e1]; exact hr)) ?_
    rw [nx25_d]
    have h2 := I.at_.put (some 123) (v := .tuple #[.bool false]) rfl (fun z => put123S mb now z b _ _ it _)
    refine h2.opsU (ovS_ok shT _ _) nilC (fun z => x25fS M R gr es n c mb most sw now key z sw' b _ _ _ it) (fun x hx => by cases hx) rfl fun a2 w2 h3 => ?_
    exact h3.items (cs := [itemN m9 1]) (ovS_ok shT _ _) nilC mix (fun c _ => hooksOk_nil c) (fun z => i25fS M R gr es n c mb most sw now key z sw' b _ _ _ it) (fun x hx => by cases hx) rfl (fun he => by cases he) fun _ a3 w3 h4 => .inr ⟨rfl, hall, I.nod, I.sub, h4⟩
  · refine wpOps_value nx25_o nx25_g (ex_next nx25_p (by rw [e1]; exact hr)) ?_
    rw [nx25_d]
    have hlen : Pk.length < L.length := by
      have := sub_len (S := e.num :: Pk.map (·.num)) (N := L.map (·.num)) (List.nodup_cons.2 ⟨hes, I.nod⟩) fun x hx => by
        rcases List.mem_cons.1 hx with rfl | hx
        · exact List.mem_map.2 ⟨e, he, rfl⟩
        · obtain ⟨y, hy, rfl⟩ := List.mem_map.1 hx; exact List.mem_map.2 ⟨y, I.sub y hy, rfl⟩
      simp at this
      omega
    have h1 : AtV M O N9 [2, 3, 4, 6, 8, 9, 12, 14, 122] (vAS mb now [.bool b, .slice (some ⟨5, 0, some L.length⟩) Pk.length L.length, .pointer (some ⟨it, 0, none⟩)]) (hLS R gr es n c most sw sw' key (lstC Pk L.length)) [] (gIt mb clk L it (Pk.map (·.num))) a w1 := by
      rcases hw1 with rfl | rfl
      · exact I.at_
      · exact I.at_.drew (w.drawn + 1)
    have h2 := (h1.set (g' := gIt mb clk L it (Pk.map (·.num) ++ [e.num])) (b := it) (y := .obj (itO mb clk (Pk.map (·.num)))) (.inr ⟨rfl, rfl⟩) (itO mb clk (Pk.map (·.num) ++ [e.num])) (fun b' x hx => by
      rcases hx with hx | ⟨h1, h2⟩
      · refine .inl ⟨fun hb => ?_, .inl hx⟩
        rcases hx with ⟨h3, _⟩ | ⟨e', he', h3, _⟩
        · exact hit.1 (hb.symm.trans h3)
        · exact hit.2 e' he' (hb.symm.trans h3)
      · exact .inr ⟨h1, h2⟩)).put (some 123) (v := .tuple #[.bool true, kv e.b.k, ptrE e]) rfl (fun z => put123S mb now z b _ _ it _)
    refine h2.opsU (ovS_ok shT _ _) nilC (fun z => x25tS M R gr es n c mb most sw now key z sw' b _ _ _ it _ _) (fun x hx => by cases hx) rfl fun a2 w2 h3 => ?_
    refine h3.items (cs := [itemN m9 1]) (ovS_ok shT _ _) nilC mix (fun c _ => hooksOk_nil c) (fun z => i25tS M R gr es n c mb most sw now key z sw' b _ _ _ it) (fun x hx => by cases hx) rfl (fun _ a3 w3 h4 => ?_) fun hne => absurd rfl hne
    refine wpL_cons (r := []) (R := fun a4 w4 => PkIS M O R gr es n c mb clk it most sw sw' now key b L (Pk ++ [e]) a4 w4) (wp_block_items ?_) fun a4 w4 h5 => .inl ⟨rfl, e, he, hes, h5⟩
    rw [itemsF9]
    show (itemN f9 0).wp Try.prog (Exit.then (wpL Try.prog _ [itemN f9 1]) _) a3 w3
    refine wp_rgn en26_f en26_r ?_
    have hw3 := (h4.known (b := mb) (x := .obj (mapO L clk)) (.inl (.inl ⟨rfl, rfl⟩))).1
    have hi3 := (h4.known (b := it) (x := .obj (itO mb clk (Pk.map (·.num) ++ [e.num]))) (.inr ⟨rfl, rfl⟩)).1
    have e2 : a3.eval (.tmp 122) = .pointer (some ⟨it, 0, none⟩) := h4.eval (fun z => by kernel_rfl) rfl
    refine wpOps_value en26_o en26_g (ex_entry en26_p (by rw [e2]; exact run_entryM hw3 hi3 he hok.nums)) ?_
    rw [en26_d]
    have h5 := h4.put (some 125) (v := .tuple #[kv e.b.k, ptrE e]) rfl (fun z => put125S mb now z b _ _ it _)
    refine h5.ops (K := fnsC []) (cl := fun l => l) (fnsC_sound nilC) (fun z => r26S M R gr es n c mb most sw now key z sw' b _ _ _ it e.b.k e.blk) rfl fun a4 w4 h6 => ?_
    show wpL Try.prog _ ([itemN f9 1] ++ []) a4 w4
    refine h6.items (ovS_ok shT _ _) nilC mix (fun c _ => hooksOk_nil c) (fun z => r27S M R gr es n c mb most sw now key z sw' b (lstC Pk L.length) Pk.length L.length it e.blk) (held_one ?_) rfl (fun _ a5 w5 h7 => ?_) fun hne => absurd rfl hne
    · simp only [Bool.and_true, Bool.and_eq_true, decide_eq_true_eq]
      exact ⟨by omega, lstC_length (by omega), by omega⟩
    · have h8 := h7.compact (keep := [0, 1, 2, 3, 4, 5]) (i0 := 1) (V' := vAS mb now [.bool b, .slice (some ⟨5, 0, some L.length⟩) (Pk.length + 1) L.length, .pointer (some ⟨it, 0, none⟩)]) (lo := (hLS R gr es n c most sw sw' key (wr (lstC Pk L.length) (0 + Pk.length * 1) [ptrE e])).filterMap id) (by kernel_rfl) (fun i hi => by rw [hO] at hi; simp at hi ; subst hi; rfl)
      rw [lstC_wr hlen] at h8
      refine ⟨rfl, ?_, ?_, ?_⟩
      · rw [List.map_append]
        exact List.nodup_append.2 ⟨I.nod, by simp, fun x hx y hy => by simp at hy; subst hy; exact fun hxy => hes (hxy ▸ hx)⟩
      · intro x hx
        rcases List.mem_append.1 hx with hx | hx
        · exact I.sub x hx
        · simp at hx; subst hx; exact he
      · have e3 : (Pk ++ [e]).length = Pk.length + 1 := by simp
        rw [e3, List.map_append]
        exact h8

/-- The list. -/
theorem listS (hO : O.h = [some ⟨R, gr, es, true⟩]) {L : List Ent} (hok : MapOk mb clk L) (hm : L.length ≤ 4097) {a : Go.Act} {w : World} {Q : Exit → Go.Act → World → Prop} {rest : List Code}
    (h : AtV M O N9 [2, 3, 4, 6, 8, 9, 12] (vAS mb now [.bool b]) (hAS R gr es n c most sw sw' key) [] (gMap mb clk L) a w)
    (k1 : ∀ (Pk : List Ent), (Pk.map (·.num)).Nodup → (∀ e ∈ Pk, e ∈ L) → Pk.length = L.length → ∀ a1 w1, AtV M O N9 [2, 3, 4, 6, 8, 9, 12, 14] (vAS mb now [.bool b, .slice (some ⟨5, 0, some L.length⟩) L.length L.length]) (hLS R gr es n c most sw sw' key (Pk.map ptrE)) [] (gMap mb clk L) a1 w1 → wpL Try.prog Q rest a1 w1) :
    wpL Try.prog Q (itemN c9 11 :: itemN c9 12 :: .block 2 (.loop m9) :: rest) a w := by
  show (itemN c9 11).wp Try.prog (Exit.then (wpL Try.prog Q (itemN c9 12 :: .block 2 (.loop m9) :: rest)) Q) a w
  refine wp_rgn ln23_f ln23_r ?_
  refine h.ops (K := fnsC []) (cl := fun l => l) (fnsC_sound nilC) (fun z => r23S M R gr es n c mb most sw now key z sw' b) rfl fun a1 w1 h1 => ?_
  have hw := (h1.known (b := mb) (x := .obj (mapO L clk)) (.inl ⟨rfl, rfl⟩)).1
  have e1 : a1.eval (.tmp 118) = .map (some mb) := h1.eval (fun z => by kernel_rfl) rfl
  refine wpOps_value ln23_o ln23_g (ex_len ln23_p (by rw [e1]; exact run_len hw _)) ?_
  rw [ln23_d]
  have h2 := h1.put (some 119) (v := .int .i64 L.length) rfl (fun z => put119S mb now z b _)
  refine h2.opsU (ovS_ok shT _ _) nilC (fun z => m23S M R gr es n c mb most sw now key z sw' b L.length) (held_one (by simp [mkB]; omega)) rfl fun a2 w2 h3 => ?_
  have h3' := h3.flatten (i := 5) (o := ⟨zcells [.pointer none] (L.length : Int).toNat, true, 1, false⟩) rfl (by rw [hO]; rfl) (by rw [Int.toNat_natCast, lstC_zero]; exact lstC_ground _ _)
  have h4 : AtV M O N9 [2, 3, 4, 6, 8, 9, 12, 14] (vAS mb now [.bool b, .slice (some ⟨5, 0, some L.length⟩) 0 L.length]) (hLS R gr es n c most sw sw' key (lstC [] L.length)) [] (gMap mb clk L) a2 w2 := by
    have e2 : (L.length : Int).toNat = L.length := Int.toNat_natCast _
    rw [e2, Nat.mul_one, lstC_zero] at h3'
    exact h3'
  clear h3 h3'
  show (itemN c9 12).wp Try.prog (Exit.then (wpL Try.prog Q (.block 2 (.loop m9) :: rest)) Q) a2 w2
  refine wp_rgn rng24_f rng24_r ?_
  refine h4.ops (K := fnsC []) (cl := fun l => l) (fnsC_sound nilC) (fun z => r24S M R gr es n c mb most sw now key z sw' b _ _ _) rfl fun a3 w3 h5 => ?_
  have hw3 := (h5.known (b := mb) (x := .obj (mapO L clk)) (.inl ⟨rfl, rfl⟩)).1
  have e3 : a3.eval (.tmp 121) = .map (some mb) := h5.eval (fun z => by kernel_rfl) rfl
  refine wpOps_value rng24_o rng24_g (ex_range rng24_p (by rw [e3]; exact run_rangeM hw3)) ?_
  rw [rng24_d]
  have hlt : ∀ b x, gMap mb clk L b x → b ≠ w3.heap.size := fun b x hx hb => by
    obtain ⟨p, hp⟩ := GO.there (h5.known hx).1
    have := heap_lt hp
    omega
  have hit : w3.heap.size ≠ mb ∧ ∀ e ∈ L, w3.heap.size ≠ e.blk := ⟨fun hm => hlt mb _ (.inl ⟨rfl, rfl⟩) hm.symm, fun e he hm => hlt e.blk _ (.inr ⟨e, he, rfl, rfl⟩) hm.symm⟩
  have h6 := (h5.alloc (g' := gIt mb clk L w3.heap.size []) (itO mb clk []) (fun b x hx => by
    rcases hx with hx | hx
    · exact .inl hx
    · exact .inr hx)).put (some 122) (v := .pointer (some ⟨w3.heap.size, 0, none⟩)) rfl (fun z => put122S mb now z b _ _ _)
  have I0 : PkIS M O R gr es n c mb clk w3.heap.size most sw sw' now key b L [] _ _ := ⟨List.nodup_nil, fun e he => (by cases he), h6⟩
  refine wpL_cons (R := fun a4 w4 => ∃ Pk, Pk.length = L.length ∧ PkIS M O R gr es n c mb clk w3.heap.size most sw sw' now key b L Pk a4 w4)
    (wp_block (wp_loop_idx (fun j a4 w4 => ∃ Pk, Pk.length = j ∧ PkIS M O R gr es n c mb clk w3.heap.size most sw sw' now key b L Pk a4 w4) L.length ⟨[], rfl, I0⟩ ?_ ?_)) ?_
  · rintro j a4 w4 hj ⟨Pk, hPk, I⟩
    refine wp_mono (pickS hO hok hit I) ?_
    rintro e a5 w5 (⟨rfl, x, hx, hxs, I'⟩ | ⟨rfl, hall, _⟩)
    · exact ⟨rfl, Pk ++ [x], by simp [hPk], I'⟩
    · exfalso
      obtain ⟨s, hs1, hs2⟩ := some_out (S := Pk.map (·.num)) (nums_nodup hok.nums) (by rw [List.length_map, List.length_map]; omega)
      obtain ⟨e, he, rfl⟩ := List.mem_map.1 hs1
      exact hs2 (hall e he)
  · rintro a4 w4 ⟨Pk, hPk, I⟩
    refine wp_mono (pickS hO hok hit I) ?_
    rintro e a5 w5 (⟨rfl, x, hx, hxs, I'⟩ | ⟨rfl, hall, I'⟩)
    · exfalso
      refine hxs (all_in (N := L.map (·.num)) I.nod (fun s hs => ?_) (by rw [List.length_map, List.length_map]; omega) _ (List.mem_map.2 ⟨x, hx, rfl⟩))
      obtain ⟨e, he, rfl⟩ := List.mem_map.1 hs
      exact List.mem_map.2 ⟨e, I.sub e he, rfl⟩
    · exact ⟨by simp, rfl, Pk, hPk, I'⟩
  · rintro a4 w4 ⟨Pk, hPk, I⟩
    have h7 := (I.at_.live (live' := [2, 3, 4, 6, 8, 9, 12, 14]) (V' := vAS mb now [.bool b, .slice (some ⟨5, 0, some L.length⟩) Pk.length L.length]) (fun z => by kernel_rfl)).weaken (g' := gMap mb clk L) (fun b x hx => .inl hx)
    have e4 : lstC Pk L.length = Pk.map ptrE := by simp [lstC, hPk]
    rw [hPk, e4] at h7
    exact k1 Pk I.nod I.sub hPk a4 w4 h7
end
end Go.Proofs.Ytfkdcpinajnbfaa
