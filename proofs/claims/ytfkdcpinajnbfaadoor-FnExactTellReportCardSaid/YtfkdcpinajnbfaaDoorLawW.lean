/- The law FnExactTellReport, walked.
   Conditions: the argument lies in memory, its numbers in range; the table of powers of ten. -/
import Derived.Test.YtfkdcpinajnbfaaDoorLawE
open Go.Ab Go.Num
set_option linter.unusedVariables false
set_option linter.unusedSimpArgs false
namespace Go.Proofs.YtfkdcpinajnbfaaDoor
set_option maxRecDepth 100000
/-- What is known of the argument. -/
structure LawIn (M : Mem) (s : Out) (R : List Row) (dh code : Int) : Prop where
  pow : PowOk M
  rows : RowsIn M s R
  ob : ∀ r ∈ R, ObOk r.1
  len : ∀ r ∈ R, r.2.len ≤ 1048576
  b8 : ∀ r ∈ R, isB8 (r.2.byte M) r.2.len
  dh : i64B dh = true
  code : i64B code = true
theorem pow_seen {M : Mem} (h : PowOk M) (g : Gho) : PowOk (seenM M g) := h
abbrev lawT (M : Mem) (R : List Row) (dh code : Int) : List UInt8 := repT M R dh code

theorem repAt {M : Mem} {O : Org} {s : Out} {R : List Row} {dh code : Int} (hI : LawIn M s R dh code) {L : List Cp} {q : Cp} (hcp : CpOk M R L q) {N : Nat} {live : List Nat} {V : List Value} {H : AHeap} {nm : List (Nat × Nat)} {g : Gho} {a : Go.Act} {w : World} (h : AtV M O N live V H nm g a w)
    (hg : ∀ b y, repG M R L q b y → g b y) : RepAt (seenM M g) M q R L := by
  refine ⟨hcp.len, hI.rows.small, fun i r p hr hp => ?_⟩
  have hmem := List.mem_of_getElem? hr
  have hlt := (List.getElem?_eq_some_iff.1 hr).1
  have hl := hI.len r hmem
  have hcell : ∀ j, j < r.2.len → seenM M g p.b (0 + j) = some (.int .u8 (r.2.byte M j)) := fun j hj => by
    have hgp : g p.b (.cells (cellsI .u8 r.2.len (r.2.byte M))) := hg _ _ (.inl ⟨i, r, p, hr, hp, by omega, rfl, rfl⟩)
    exact h.seen hgp (by simp [cellsI, hj])
  have hro : ∀ j, j < r.2.len → roN (seenM M g) p.b 0 j = r.2.byte M j := fun j hj => by
    unfold roN; rw [hcell j hj]; rfl
  refine ⟨fun j hj => ?_, ?_, hI.ob r hmem, hl, hro⟩
  · have hq : g q.b (.cells (rowsC R L)) := hg _ _ (.inr ⟨by omega, rfl, rfl⟩)
    have hj' : j < 87 := by rw [rowC, obC_length] at hj; exact hj
    have e := rowsC_get hr hp hj'
    rw [List.getElem?_eq_getElem hj] at e ⊢
    exact h.seen hq (by rw [Nat.zero_add]; exact e)
  · unfold hexRoB
    have e1 : (List.range r.2.len).all (fun i => roB .u8 (seenM M g) p.b (0 + i)) = true := List.all_eq_true.2 fun j hj => by
      have hj := List.mem_range.1 hj
      unfold roB; rw [hcell j hj]; rfl
    have e2 : inR r.2.len (roN (seenM M g) p.b 0) = true := inR_of fun j hj => by rw [hro j hj]; exact hI.b8 r hmem j hj
    rw [e1, e2]
    simp [hl]

theorem eqPin_held {T : List UInt8} (h : T.length ≤ 10000000000000) : Held (eqPin T) := by
  have hs : sliceB (txO T) T.length 0 T.length = true := by
    rw [sliceB_iff]
    refine ⟨tx_length _, by omega, by omega, ?_⟩
    rw [List.all_eq_true]
    intro v hv
    have hv := List.mem_of_mem_drop (List.mem_of_mem_take hv)
    simp only [tx, List.mem_map] at hv
    obtain ⟨b, _, rfl⟩ := hv
    rfl
  refine held_cons hs (held_cons hs (held_one ?_))
  have hc : cut (txO T) 0 T.length = (T.map fun b => (b.toNat : Int)).map (.int .u8) := by
    simp only [cut, List.drop_zero]
    rw [List.take_of_length_le (by rw [tx_length]; exact Nat.le_refl _)]
    simp [tx, List.map_map]
  rw [hc, Ab.eqB_self, Nat.beq_refl]
  rfl
theorem lawT_len {M : Mem} {s : Out} {R : List Row} {dh code : Int} (hI : LawIn M s R dh code) : (lawT M R dh code).length ≤ 10000000000000 := by
  have h1 := headT_len hI.dh hI.code
  have h2 : (rowsT M R).length ≤ R.length * 2100000 := rowsT_len fun r hr => ⟨hI.ob r hr, hI.len r hr⟩
  have h3 := hI.rows.small
  simp only [lawT, repT, List.length_append]
  have := Nat.mul_le_mul_right 2100000 h3
  omega

section
variable {M : Mem} {O : Org} {s : Out} {R : List Row} {dh code : Int} {rest : List Code} {Q : Exit → Go.Act → World → Prop} {a : Go.Act} {w : World}
/-- The copies, as they are handed back. -/
def CpR (M : Mem) (R : List Row) (dh code : Int) (v : Value) (g : Gho) : Prop := ∃ (L : List Cp) (q : Cp), CpOk M R L q ∧ v = repQ q R.length dh code ∧ g = repG M R L q
theorem enters6 : Go.Ab.Enters Tryd.prog 6 := ⟨_, Tryd.func6, by kernel_rfl, by kernel_rfl⟩
theorem repA_ren (s : Out) (dh code : Int) : renL (idx []) [repA s dh code] = some [repA s dh code] := by obtain ⟨zz, b, off, n, c⟩ := s; cases zz <;> rfl
theorem CpR_ground {v : Value} {g : Gho} (h : CpR M R dh code v g) : ground v = true := by obtain ⟨L, q, _, rfl, _⟩ := h; rfl

theorem w5 (hI : LawIn M s R dh code) (h : AtV M O Tryd.f3.ntmps [1] [p3 0] [bxA s dh code] [] (fun _ _ => False) a w)
    (k : ∀ a1 w1, AtV M O Tryd.f3.ntmps [1, 4] [p3 0, slN 1 (lawT M R dh code).length] [bxA s dh code, some (txO (lawT M R dh code))] [] (fun _ _ => False) a1 w1 → wpL Tryd.prog Q rest a1 w1) : wpL Tryd.prog Q (itemN c3 5 :: rest) a w := by
  show (itemN c3 5).wp Tryd.prog (Exit.then (wpL Tryd.prog Q rest) Q) a w
  refine wp_rgn r5_f r5_r ?_
  refine h.opsU (ovI_ok _ _ _ _ _) nilC (fun z => eL5a M s dh code z) (fun x hx => by cases hx) rfl fun a2 w2 h2 => ?_
  refine h2.callG (L := []) r5_o r5_g r5_p (fun z => by kernel_rfl) enters6 (us := [repA s dh code]) (fun z => by kernel_rfl) rfl (objs := []) rfl rfl (largs := [repA s dh code]) (repA_ren s dh code) (R := CpR M R dh code) (fun v g hR => CpR_ground hR) (toRepG hI.rows) (by obtain ⟨zz, b, off, n, c⟩ := s; cases zz <;> rfl) (live' := [1, 17]) (V' := fun v => [p3 0, v]) (fun z v => by rw [r5_d]; exact eL5c z _ _) fun v g1 w3 hR h3 => ?_
  obtain ⟨L, q, hcp, rfl, rfl⟩ := hR
  have hrep := repAt hI hcp h3 fun b y hy => .inr hy
  obtain ⟨O', _, _, h4, back⟩ := h3.window (seenM_seen M _)
  refine h4.opsU (ovI_ok _ _ _ _ _) (consC (conSum_sound Tryd.func5 (by kernel_rfl) (by kernel_rfl) (tell5 hI.dh hI.code hrep)) nilC) (fun z => eL5d _ s dh code z q R.length _) (held_one (fact_iff.2 rfl)) (by obtain ⟨zz, b, off, n, c⟩ := s; cases zz <;> rfl) fun a5 w5 h5 => ?_
  exact k a5 w5 ((back _ _ _ _ _ _ _ _ h5).weaken fun b x hx => hx.elim)

theorem w6 (hI : LawIn M s R dh code) {T : List UInt8} (h : AtV M O Tryd.f3.ntmps [1, 4] [p3 0, slN 1 T.length] [bxA s dh code, some (txO T)] [] (fun _ _ => False) a w)
    (k : ∀ L q a1 w1, CpOk M R L q → AtV M O Tryd.f3.ntmps [1, 4, 5] [p3 0, slN 1 T.length, p3 2] (H2 s q R.length dh code T) [] (repG M R L q) a1 w1 → wpL Tryd.prog Q rest a1 w1) : wpL Tryd.prog Q (itemN c3 6 :: rest) a w := by
  show (itemN c3 6).wp Tryd.prog (Exit.then (wpL Tryd.prog Q rest) Q) a w
  refine wp_rgn r6x_f r6x_r ?_
  refine h.opsU (ovI_ok _ _ _ _ _) nilC (fun z => eL6a M s dh code z T) (fun x hx => by cases hx) (by obtain ⟨zz, b, off, n, c⟩ := s; cases zz <;> rfl) fun a2 w2 h2 => ?_
  refine h2.callG (L := []) r6x_o r6x_g r6x_p (fun z => by kernel_rfl) enters6 (us := [repA s dh code]) (fun z => by kernel_rfl) rfl (objs := []) rfl rfl (largs := [repA s dh code]) (repA_ren s dh code) (R := CpR M R dh code) (fun v g hR => CpR_ground hR) (toRepG hI.rows) (by obtain ⟨zz, b, off, n, c⟩ := s; cases zz <;> rfl) (live' := [1, 4, 20]) (V' := fun v => [p3 0, slN 1 T.length, v]) (fun z v => by rw [r6x_d]; exact eL6c z _ _ T) fun v g1 w3 hR h3 => ?_
  obtain ⟨L, q, hcp, rfl, rfl⟩ := hR
  refine h3.opsU (ovI_ok _ _ _ _ _) nilC (fun z => eL6d M s dh code z q R.length T) (fun x hx => by cases hx) (by obtain ⟨zz, b, off, n, c⟩ := s; cases zz <;> rfl) fun a5 w5 h5 => ?_
  exact k L q a5 w5 hcp (h5.weaken fun b x hx => .inr hx)

theorem w7 (hI : LawIn M s R dh code) {L : List Cp} {q : Cp} (hcp : CpOk M R L q) (h : AtV M O Tryd.f3.ntmps [1, 4, 5] [p3 0, slN 1 (lawT M R dh code).length, p3 2] (H2 s q R.length dh code (lawT M R dh code)) [] (repG M R L q) a w)
    (k : ∀ a1 w1, AtV M O Tryd.f3.ntmps l456 (v456 (lawT M R dh code)) (H2 s q R.length dh code (lawT M R dh code) ++ [some (txO (lawT M R dh code))]) [] (repG M R L q) a1 w1 → wpL Tryd.prog Q rest a1 w1) : wpL Tryd.prog Q (itemN c3 7 :: rest) a w := by
  have hrep := repAt hI hcp h fun b y hy => hy
  obtain ⟨O', _, _, h4, back⟩ := h.window (seenM_seen M _)
  show wpL Tryd.prog Q ([itemN c3 7] ++ rest) a w
  refine h4.items (ovI_ok _ _ _ _ _) (consC (conSum_sound Tryd.func7 (by kernel_rfl) (by kernel_rfl) (tell7 (pow_seen hI.pow _) hI.dh hI.code hrep)) nilC) mix (fun c _ => hooksOk_nil c) (fun z => eL7 _ s dh code z q R.length _) (held_one (fact_iff.2 rfl)) (by obtain ⟨zz, b, off, n, c⟩ := s; cases zz <;> rfl) (fun _ a5 w5 h5 => ?_) fun hne => absurd rfl hne
  exact k a5 w5 ((back _ _ _ _ _ _ _ _ h5).weaken fun b x hx => .inl hx)

theorem w8 {T : List UInt8} (hT : T.length ≤ 10000000000000) {q : Cp} {g : Gho} (h : AtV M O Tryd.f3.ntmps l456 (v456 T) (H2 s q R.length dh code T ++ [some (txO T)]) [] g a w)
    (k : ∀ a1 w1, AtV M O Tryd.f3.ntmps l456 (v456 T) (H2 s q R.length dh code T ++ [some (txO T)]) [] g a1 w1 → wpL Tryd.prog Q rest a1 w1) : wpL Tryd.prog Q (itemN c3 8 :: itemN c3 9 :: rest) a w := by
  show wpL Tryd.prog Q ([itemN c3 8, itemN c3 9] ++ rest) a w
  refine h.items (ovI_ok _ _ _ _ _) (consC (eqsSum8_sound M) nilC) mix (fun c _ => hooksOk_nil c) (fun z => eL8 _ s dh code z q R.length T) (eqPin_held hT) (by obtain ⟨zz, b, off, n, c⟩ := s; cases zz <;> rfl) (fun _ a5 w5 h5 => ?_) fun hne => absurd rfl hne
  exact k a5 w5 h5

theorem w10 (hI : LawIn M s R dh code) {L : List Cp} {q : Cp} (hcp : CpOk M R L q) {T : List UInt8} (h : AtV M O Tryd.f3.ntmps l456 (v456 T) (H2 s q R.length dh code T ++ [some (txO T)]) [] (repG M R L q) a w)
    (k : ∀ a1 w1, AtV M O Tryd.f3.ntmps (l456 ++ [31]) (v456 T ++ [.bool false]) (H2 s q R.length dh code T ++ [some (txO T)]) [] (repG M R L q) a1 w1 → wpL Tryd.prog Q rest a1 w1) : wpL Tryd.prog Q (itemN c3 10 :: rest) a w := by
  have last : ∀ (L' : List Cp) (q' : Cp) (a : Go.Act) (w : World), CpOk M R L' q' → AtV M O Tryd.f3.ntmps (l456 ++ [27, 29]) (v456 T ++ [repQ q R.length dh code, repQ q' R.length dh code]) (H2 s q R.length dh code T ++ [some (txO T)]) [] (fun b x => repG M R L q b x ∨ repG M R L' q' b x) a w → wpOps Tryd.prog (opsOf (itemN c3 10)) (Exit.then (wpL Tryd.prog Q rest) Q) ([3, 4] ++ []) a w := fun L' q' a w hcp' h => by
    have hr1 := repAt hI hcp h fun b y hy => .inl hy
    have hr2 := repAt hI hcp' h fun b y hy => .inr hy
    obtain ⟨O', _, _, h4, back⟩ := h.window (seenM_seen M _)
    refine h4.opsU (ovI_ok _ _ _ _ _) (consC (conSum_sound Tryd.func9 (by kernel_rfl) (by kernel_rfl) (eq9 hr1 hr2)) nilC) (fun z => eL10g _ s dh code z q R.length T q') (held_one (fact_iff.2 rfl)) (by obtain ⟨zz, b, off, n, c⟩ := s; cases zz <;> rfl) fun a5 w5 h5 => ?_
    exact k a5 w5 ((back _ _ _ _ _ _ _ _ h5).weaken fun b x hx => .inl (.inl hx))
  show (itemN c3 10).wp Tryd.prog (Exit.then (wpL Tryd.prog Q rest) Q) a w
  refine wp_rgnD mix r10x_c r10x_l fun l hl => ?_
  have h0 := h.drew (w.drawn + 1)
  rcases List.mem_cons.1 hl with rfl | hl
  · show wpOps Tryd.prog _ _ ([0, 1] ++ (2 :: ([3, 4] ++ []))) _ _
    refine h0.opsU (ovI_ok _ _ _ _ _) nilC (fun z => eL10a M s dh code z q R.length T) (fun x hx => by cases hx) (by obtain ⟨zz, b, off, n, c⟩ := s; cases zz <;> rfl) fun a2 w2 h2 => ?_
    refine h2.callG (L := []) r10x_o r10x_g r10x_p (fun z => by kernel_rfl) enters6 (us := [repA s dh code]) (fun z => by kernel_rfl) rfl (objs := []) rfl rfl (largs := [repA s dh code]) (repA_ren s dh code) (R := CpR M R dh code) (fun v g hR => CpR_ground hR) (toRepG hI.rows) (by obtain ⟨zz, b, off, n, c⟩ := s; cases zz <;> rfl) (live' := l456 ++ [27, 29]) (V' := fun v => v456 T ++ [repQ q R.length dh code, v]) (fun z v => by rw [r10x_d]; exact eL10d z _ _ _ T) fun v g1 w3 hR h3 => ?_
    obtain ⟨L', q', hcp', rfl, rfl⟩ := hR
    exact last L' q' _ _ hcp' h3
  rcases List.mem_cons.1 hl with rfl | hl
  · show wpOps Tryd.prog _ _ ([1, 0] ++ (2 :: ([3, 4] ++ []))) _ _
    refine h0.opsU (ovI_ok _ _ _ _ _) nilC (fun z => eL10b M s dh code z q R.length T) (fun x hx => by cases hx) (by obtain ⟨zz, b, off, n, c⟩ := s; cases zz <;> rfl) fun a2 w2 h2 => ?_
    refine h2.callG (L := []) r10x_o r10x_g r10x_p (fun z => by kernel_rfl) enters6 (us := [repA s dh code]) (fun z => by kernel_rfl) rfl (objs := []) rfl rfl (largs := [repA s dh code]) (repA_ren s dh code) (R := CpR M R dh code) (fun v g hR => CpR_ground hR) (toRepG hI.rows) (by obtain ⟨zz, b, off, n, c⟩ := s; cases zz <;> rfl) (live' := l456 ++ [27, 29]) (V' := fun v => v456 T ++ [repQ q R.length dh code, v]) (fun z v => by rw [r10x_d]; exact eL10d z _ _ _ T) fun v g1 w3 hR h3 => ?_
    obtain ⟨L', q', hcp', rfl, rfl⟩ := hR
    exact last L' q' _ _ hcp' h3
  rcases List.mem_cons.1 hl with rfl | hl
  · show wpOps Tryd.prog _ _ ([1] ++ (2 :: ([0] ++ ([3, 4] ++ [])))) _ _
    refine h0.opsU (ovI_ok _ _ _ _ _) nilC (fun z => eL10c M s dh code z q R.length T) (fun x hx => by cases hx) (by obtain ⟨zz, b, off, n, c⟩ := s; cases zz <;> rfl) fun a2 w2 h2 => ?_
    refine h2.callG (L := []) r10x_o r10x_g r10x_p (fun z => by kernel_rfl) enters6 (us := [repA s dh code]) (fun z => by kernel_rfl) rfl (objs := []) rfl rfl (largs := [repA s dh code]) (repA_ren s dh code) (R := CpR M R dh code) (fun v g hR => CpR_ground hR) (toRepG hI.rows) (by obtain ⟨zz, b, off, n, c⟩ := s; cases zz <;> rfl) (live' := l456 ++ [29]) (V' := fun v => v456 T ++ [v]) (fun z v => by rw [r10x_d]; exact eL10e z _ _ T) fun v g1 w3 hR h3 => ?_
    obtain ⟨L', q', hcp', rfl, rfl⟩ := hR
    refine h3.opsU (ovI_ok _ _ _ _ _) nilC (fun z => eL10f M s dh code z q R.length T q') (fun x hx => by cases hx) (by obtain ⟨zz, b, off, n, c⟩ := s; cases zz <;> rfl) fun a4 w4 h4 => ?_
    exact last L' q' _ _ hcp' h4
  · simp at hl

theorem w11 {T : List UInt8} {q : Cp} {g : Gho} (h : AtV M O Tryd.f3.ntmps (l456 ++ [31]) (v456 T ++ [.bool false]) (H2 s q R.length dh code T ++ [some (txO T)]) [] g a w)
    (k : ∀ a1 w1, AtV M O Tryd.f3.ntmps (l456 ++ [7]) (v456 T ++ [.int .i64 1]) (H2 s q R.length dh code T ++ [some (txO T)]) [] g a1 w1 → wpL Tryd.prog Q rest a1 w1) : wpL Tryd.prog Q (itemN c3 11 :: itemN c3 12 :: rest) a w := by
  show wpL Tryd.prog Q ([itemN c3 11, itemN c3 12] ++ rest) a w
  refine h.items (ovI_ok _ _ _ _ _) nilC mix (fun c _ => hooksOk_nil c) (fun z => eL11 _ s dh code z q R.length T) (fun x hx => by cases hx) (by obtain ⟨zz, b, off, n, c⟩ := s; cases zz <;> rfl) (fun _ a5 w5 h5 => ?_) fun hne => absurd rfl hne
  exact k a5 w5 h5

theorem enters10 : Go.Ab.Enters Tryd.prog 10 := ⟨_, Tryd.func10, by kernel_rfl, by kernel_rfl⟩
theorem w13 (hI : LawIn M s R dh code) (hO : O.h = []) {L : List Cp} {q : Cp} (hcp : CpOk M R L q) {T : List UInt8} (h : AtV M O Tryd.f3.ntmps (l456 ++ [7]) (v456 T ++ [.int .i64 1]) (H2 s q R.length dh code T ++ [some (txO T)]) [] (repG M R L q) a w)
    (k : ∀ (j : Int) a1 w1, 0 ≤ j → AtV M O Tryd.f3.ntmps (l456 ++ [7]) (v456 T ++ [.int .i64 j]) (H2 s q R.length dh code T ++ [some (txO T)]) [] (fun _ _ => False) a1 w1 → wpL Tryd.prog Q rest a1 w1) : wpL Tryd.prog Q (itemN c3 13 :: rest) a w := by
  show (itemN c3 13).wp Tryd.prog (Exit.then (wpL Tryd.prog Q rest) Q) a w
  refine wp_rgn r13_f r13_r ?_
  refine h.opsU (ovI_ok _ _ _ _ _) nilC (fun z => eL13a M s dh code z q R.length T) (fun x hx => by cases hx) (by obtain ⟨zz, b, off, n, c⟩ := s; cases zz <;> rfl) fun a2 w2 h2 => ?_
  refine h2.callIn hO r13_o r13_g r13_p (fun z => by kernel_rfl) enters10 (us := [repQ q R.length dh code, .int .i64 1]) (fun z => by kernel_rfl) rfl (R := MarkR fun _ _ => False) (fun gx hd hst => ?_) (live' := l456 ++ [34]) (V' := fun v => v456 T ++ [v]) (fun z v => by rw [r13_d]; exact eL13c z _ _ _ T) fun v g1 w3 hR h3 => ?_
  · refine (mark10 hO hcp hI.rows.small hI.len gx hd hst).mono ?_
    rintro e w' ⟨v, g1, rfl, hgv, ⟨hk, rfl⟩, hst'⟩
    exact ⟨v, fun _ _ => False, rfl, hgv, ⟨⟨hk, rfl⟩, fun b x hx => hx.elim⟩, ⟨hst'.r0, hst'.tr, fun b x hx => hst'.g b x (hx.resolve_left id)⟩⟩
  · obtain ⟨⟨j, rfl, hj⟩, rfl⟩ := hR
    refine h3.opsU (ovI_ok _ _ _ _ _) nilC (fun z => eL13d M s dh code j z q R.length T) (fun x hx => by cases hx) (by obtain ⟨zz, b, off, n, c⟩ := s; cases zz <;> rfl) fun a4 w4 h4 => ?_
    exact k j a4 w4 hj h4

theorem w14 {T : List UInt8} (hT : T.length ≤ 10000000000000) {q : Cp} {g : Gho} {j : Int} (hj : 0 ≤ j) (h : AtV M O Tryd.f3.ntmps (l456 ++ [7]) (v456 T ++ [.int .i64 j]) (H2 s q R.length dh code T ++ [some (txO T)]) [] g a w)
    (k : ∀ a1 w1, AtV M O Tryd.f3.ntmps l456 (v456 T) (H2 s q R.length dh code T ++ [some (txO T)]) [] g a1 w1 → wpL Tryd.prog Q rest a1 w1) : wpL Tryd.prog Q (itemN c3 14 :: itemN c3 15 :: rest) a w := by
  show wpL Tryd.prog Q ([itemN c3 14, itemN c3 15] ++ rest) a w
  refine h.items (ovI_ok _ _ _ _ _) (consC (eqsSum8_sound M) nilC) mix (fun c _ => hooksOk_nil c) (fun z => eL14 _ s dh code j z q R.length T) (held_cons (decide_eq_false (by omega)) (eqPin_held hT)) (by obtain ⟨zz, b, off, n, c⟩ := s; cases zz <;> rfl) (fun _ a5 w5 h5 => ?_) fun hne => absurd rfl hne
  exact k a5 w5 h5

theorem w16 {T : List UInt8} (hT : T.length ≤ 10000000000000) {q : Cp} {g : Gho} (h : AtV M O Tryd.f3.ntmps l456 (v456 T) (H2 s q R.length dh code T ++ [some (txO T)]) [] g a w)
    (k : ∀ a1 w1, AtV M O Tryd.f3.ntmps [1, 4] [p3 0, slN 1 T.length] (H2 s q R.length dh code T ++ [mkO T]) [] g a1 w1 → wpL Tryd.prog Q rest a1 w1) : wpL Tryd.prog Q (itemN c3 16 :: itemN c3 17 :: itemN c3 18 :: itemN c3 19 :: itemN c3 20 :: itemN c3 21 :: itemN c3 22 :: itemN c3 23 :: rest) a w := by
  have hs := (eqPin_held hT) (_, true) (List.Mem.head _)
  have hsb := hs
  rw [sliceB_iff] at hsb
  show wpL Tryd.prog Q ([itemN c3 16, itemN c3 17, itemN c3 18, itemN c3 19, itemN c3 20, itemN c3 21, itemN c3 22, itemN c3 23] ++ rest) a w
  refine h.items (ovI_ok _ _ _ _ _) (consC (markSum11_sound M) (consC (heldSum12_sound M) nilC)) mix (fun c _ => hooksOk_nil c) (fun z => eL16 _ s dh code z q R.length T) (held_cons hs (held_cons (sliceB_mark (k := 1) hs) (held_cons (held_mark (o := txO T) (by simp only; rw [tx_length]; omega) (by omega)) (held_cons ?_ (held_one (by simp)))))) ?_ (fun _ a5 w5 h5 => ?_) fun hne => absurd rfl hne
  · rw [cnt64_eq (by omega) (by omega), decide_eq_false_iff_not]; omega
  · obtain ⟨zz, b, off, n, c⟩ := s; cases zz <;> rfl
  · exact k a5 w5 h5

theorem w24 (hI : LawIn M s R dh code) {q : Cp} (h : AtV M O Tryd.f3.ntmps [1, 4] [p3 0, slN 1 (lawT M R dh code).length] (H2 s q R.length dh code (lawT M R dh code) ++ [mkO (lawT M R dh code)]) [] (fun _ _ => False) a w)
    (k : ∀ a1 w1, AtV M O Tryd.f3.ntmps [4, 10] [slN 1 (lawT M R dh code).length, slN 4 (lawT M R dh code).length] (H2 s q R.length dh code (lawT M R dh code) ++ [mkO (lawT M R dh code), some (txO (lawT M R dh code))]) [] (fun _ _ => False) a1 w1 → wpL Tryd.prog Q rest a1 w1) : wpL Tryd.prog Q (itemN c3 24 :: rest) a w := by
  show (itemN c3 24).wp Tryd.prog (Exit.then (wpL Tryd.prog Q rest) Q) a w
  refine wp_rgn r24_f r24_r ?_
  refine h.opsU (ovI_ok _ _ _ _ _) nilC (fun z => eL24a M s dh code z q R.length _) (fun x hx => by cases hx) (by obtain ⟨zz, b, off, n, c⟩ := s; cases zz <;> rfl) fun a2 w2 h2 => ?_
  refine h2.callG (L := []) r24_o r24_g r24_p (fun z => by kernel_rfl) enters6 (us := [repA s dh code]) (fun z => by kernel_rfl) rfl (objs := []) rfl rfl (largs := [repA s dh code]) (repA_ren s dh code) (R := CpR M R dh code) (fun v g hR => CpR_ground hR) (toRepG hI.rows) (by obtain ⟨zz, b, off, n, c⟩ := s; cases zz <;> rfl) (live' := [1, 4, 55]) (V' := fun v => [p3 0, slN 1 (lawT M R dh code).length, v]) (fun z v => by rw [r24_d]; exact eL24c z _ _ _) fun v g1 w3 hR h3 => ?_
  obtain ⟨L, q', hcp, rfl, rfl⟩ := hR
  have hrep := repAt hI hcp h3 fun b y hy => .inr hy
  obtain ⟨O', _, _, h4, back⟩ := h3.window (seenM_seen M _)
  refine h4.opsU (ovI_ok _ _ _ _ _) (consC (conSum_sound Tryd.func7 (by kernel_rfl) (by kernel_rfl) (tell7 (pow_seen hI.pow _) hI.dh hI.code hrep)) nilC) (fun z => eL24d _ s dh code z q R.length _ q') (held_one (fact_iff.2 rfl)) (by obtain ⟨zz, b, off, n, c⟩ := s; cases zz <;> rfl) fun a5 w5 h5 => ?_
  exact k a5 w5 ((back _ _ _ _ _ _ _ _ h5).weaken fun b x hx => hx.elim)
end

theorem law3 {M : Mem} {s : Out} {R : List Row} {dh code : Int} (hraw : RawIn M s R) (hpow : PowOk M) (hob : ∀ r ∈ R, ObOk r.1) (hdh : i64B dh = true) (hcode : i64B code = true)
    (hro : ∀ r ∈ R, r.2.zz = false → ∀ j, j < r.2.n → roB .u8 M r.2.b (r.2.off + j) = true) (hb8 : ∀ r ∈ R, isB8 (r.2.byte M) r.2.len) : ACalls Tryd.prog M 3 [repA s dh code] [] (.bool true) [] [] := by
  obtain ⟨v, hv, hok⟩ := sz4 (dh := dh) (code := code) hraw
  refine acalls_of_at Tryd.func3 body3 rfl fun O a w hO hat => ?_
  replace hO : O.h = [] := hO
  refine wp_items c3 ?_
  rw [items3]
  have hs4 := conSum_sound (M := M) Tryd.func4 (by kernel_rfl) (by kernel_rfl) hv
  show wpL Tryd.prog _ ([itemN c3 0, itemN c3 1, itemN c3 2, itemN c3 3, itemN c3 4] ++ _) a w
  by_cases hneg : v < 0
  · refine hat.items (ovI_ok _ _ _ _ _) (consC hs4 nilC) mix (fun c _ => hooksOk_nil c) (eL0n M s dh code v) (held_cons (fact_iff.2 rfl) (held_one (decide_eq_true hneg))) rfl (fun he => by cases he) fun _ a1 w1 h1 => ?_
    obtain ⟨z, h1⟩ := h1
    exact ⟨.inr rfl, _, _, _, .bool true, [], [], h1, by obtain ⟨zz, b, off, n, c⟩ := s; cases zz <;> kernel_rfl, rfl, rfl, rfl⟩
  · obtain ⟨hn, hlen⟩ := hok hneg
    have hI : LawIn M s R dh code := ⟨hpow, ⟨hraw.len, hn, fun hz i r hr => (hraw.row hz i r hr).imp (fun hrow => ⟨hrow, fun hz2 => by
      have hm := List.mem_of_getElem? hr
      have h1 := hlen r hm
      have e : r.2.len = r.2.n := by unfold Out.len; rw [hz2]; rfl
      exact roAll_iff.2 ⟨by omega, fun j hj => hro r hm hz2 j hj⟩⟩) id⟩, hob, hlen, hb8, hdh, hcode⟩
    have hT := lawT_len hI
    refine hat.items (ovI_ok _ _ _ _ _) (consC hs4 nilC) mix (fun c _ => hooksOk_nil c) (eL0p M s dh code v) (held_cons (fact_iff.2 rfl) (held_one (decide_eq_false hneg))) rfl (fun _ a1 w1 h1 => ?_) fun hne => absurd rfl hne
    refine w5 hI h1 fun a w h => w6 hI h fun L q a w hcp h => w7 hI hcp h fun a w h => w8 hT h fun a w h => w10 hI hcp h fun a w h => w11 h fun a w h => w13 hI hO hcp h fun j a w hj h => w14 hT hj h fun a w h => w16 hT h fun a w h => w24 hI h fun a w h => ?_
    show wpL Tryd.prog _ ([itemN c3 25, itemN c3 26, itemN c3 27, itemN c3 28] ++ []) a w
    refine h.items (ovI_ok _ _ _ _ _) (consC (eqsSum8_sound M) nilC) mix (fun c _ => hooksOk_nil c) (fun z => eL25 _ s dh code z q R.length _) (eqPin_held hT) ?_ (fun he => by cases he) fun _ a5 w5 h5 => ?_
    · obtain ⟨zz, b, off, n, c⟩ := s; cases zz <;> rfl
    · obtain ⟨z, h5⟩ := h5
      exact ⟨.inr rfl, _, _, _, .bool true, [], [], h5, by obtain ⟨zz, b, off, n, c⟩ := s; cases zz <;> kernel_rfl, rfl, rfl, rfl⟩
end Go.Proofs.YtfkdcpinajnbfaaDoor
