/- markReport: all that a report's copy holds may turn; nothing else does.
   Conditions: the copy lies in known cells. -/
import Derived.Test.YtfkdcpinajnbfaaDoorMarkE
open Go.Ab Go.Num
set_option linter.unusedVariables false
set_option linter.unusedSimpArgs false
namespace Go.Proofs.YtfkdcpinajnbfaaDoor
set_option maxRecDepth 100000
/-- The rows' cells: as many as there were, the slices as they were. -/
structure Mk (R : List Row) (L : List Cp) (X : List Value) : Prop where
  len : X.length = R.length * 87
  sl : ∀ (i : Nat) r p, R[i]? = some r → L[i]? = some p → X[i * 87 + 21]? = some (p.sl r.2.len)
theorem Mk.wr {R : List Row} {L : List Cp} {X : List Value} (h : Mk R L X) {i c : Nat} (v : Value) (hi : i < R.length) (hc : c < 87) (hne : c ≠ 21) {off : Nat} (ho : off = i * 87 + c) : Mk R L (wr X off [v]) := by
  refine ⟨by rw [wr_length]; exact h.len, fun j r p hr hp => ?_⟩
  rw [wr_get, if_neg (by simp only [List.length_cons, List.length_nil]; omega)]
  exact h.sl j r p hr hp
theorem of_eq (i c : Nat) : of i c = i * 87 + c := by unfold of; rw [Int.toNat_natCast]; omega
theorem obC_21 (o : Ob) (s : Value) : (obC o s)[21]? = some s := rfl
theorem mk_start {R : List Row} {L : List Cp} (h : L.length = R.length) : Mk R L (rowsC R L) := by
  refine ⟨rowsC_length h.symm, fun i r p hr hp => ?_⟩
  rw [rowsC_get hr hp (by omega)]
  exact obC_21 _ _
theorem stX_held {R : List Row} {L : List Cp} {X : List Value} (h : Mk R L X) {i c : Nat} (hi : i < R.length) (hc : c < 87) : Held (stX X R.length i c) := by
  have := h.len
  exact held_cons (by simp [inB]; omega) (held_one (by simp only [stB, Int.toNat_natCast, Bool.and_eq_true, decide_eq_true_eq]; omega))
theorem nx_eq {k : Int} (h : -4611686018427387904 ≤ k ∧ k ≤ 4611686018427387904) : nx k = k + 1 := wrap_i64 (by omega) (by omega)
theorem cnt64_eq {k : Int} : ∀ {n : Nat}, 0 ≤ k → k + n ≤ 4611686018427387904 → cnt64 k n = k + n := by
  intro n
  induction n with
  | zero => intro _ _; simp [cnt64]
  | succ n ih => intro h1 h2; simp only [cnt64]; rw [ih h1 (by omega), wrap_i64 (by omega) (by omega)]; omega

theorem noNames {M : Mem} {O : Org} {N : Nat} {live : List Nat} {V : List Value} {H : AHeap} {nm : List (Nat × Nat)} {g : Gho} {a : Go.Act} {w : World} (h : AtV M O N live V H nm g a w) : AtV M O N live V H [] g a w := by
  obtain ⟨z, m, h⟩ := h
  exact ⟨z, m, h.r0, h.tr, h.t, h.d, fun p hp => absurd hp (by simp), h.g⟩
/-- A state in the rounds: a count no greater than K. -/
def S23 (M : Mem) (O : Org) (R : List Row) (L : List Cp) (c i : Nat) (g : Gho) (K : Int) (a : Go.Act) (w : World) : Prop :=
  ∃ k X, 0 ≤ k ∧ k ≤ K ∧ Mk R L X ∧ AtV M O Tryd.f23.ntmps live23 (vs23 R.length c k i) (mO X) [] g a w
def S23j (M : Mem) (O : Org) (R : List Row) (L : List Cp) (c i t : Nat) (g : Gho) (K : Int) (j : Nat) (a : Go.Act) (w : World) : Prop :=
  ∃ k X, 0 ≤ k ∧ k ≤ K + j ∧ Mk R L X ∧ AtV M O Tryd.f23.ntmps [0, 1, 5, t] (vs23 R.length c k i ++ [.int .i64 j]) (mO X) [] g a w

section
variable {M : Mem} {O : Org} {R : List Row} {L : List Cp} {q : Cp} {c i : Nat} {g : Gho} {K : Int} {a : Go.Act} {w : World} {rest : List Code} {Q : Exit → Go.Act → World → Prop}
theorem mp1 (hK : K ≤ 4611686018427000000) (hi : i < R.length) (h : S23 M O R L c i g K a w) (k : ∀ a1 w1, S23 M O R L c i g (K + 1) a1 w1 → wpL Tryd.prog Q rest a1 w1) : wpL Tryd.prog Q (itemN b23 0 :: itemN b23 1 :: rest) a w := by
  show wpL Tryd.prog Q ([itemN b23 0, itemN b23 1] ++ rest) a w
  obtain ⟨k0, X, h0, h1, hM, h⟩ := h
  refine h.items (ovI_ok _ _ _ _ _) nilC mix (fun c _ => hooksOk_nil c) (fun z => e23p1 M R.length c i k0 X z) (stX_held hM hi (by omega)) rfl (fun _ a1 w1 h2 => k a1 w1 ?_) fun hne => absurd rfl hne
  rw [nx_eq (by omega)] at h2
  exact ⟨_, _, by omega, by omega, hM.wr _ hi (by omega) (by omega) (of_eq i 0), h2⟩
theorem mp2 (hK : K ≤ 4611686018427000000) (hi : i < R.length) (h : S23 M O R L c i g K a w) (k : ∀ a1 w1, S23 M O R L c i g (K + 1) a1 w1 → wpL Tryd.prog Q rest a1 w1) : wpL Tryd.prog Q (itemN b23 2 :: itemN b23 3 :: rest) a w := by
  show wpL Tryd.prog Q ([itemN b23 2, itemN b23 3] ++ rest) a w
  obtain ⟨k0, X, h0, h1, hM, h⟩ := h
  refine h.items (ovI_ok _ _ _ _ _) nilC mix (fun c _ => hooksOk_nil c) (fun z => e23p2 M R.length c i k0 X z) (stX_held hM hi (by omega)) rfl (fun _ a1 w1 h2 => k a1 w1 ?_) fun hne => absurd rfl hne
  rw [nx_eq (by omega)] at h2
  exact ⟨_, _, by omega, by omega, hM.wr _ hi (by omega) (by omega) (of_eq i 1), h2⟩
theorem mp3 (hK : K ≤ 4611686018427000000) (hi : i < R.length) (h : S23 M O R L c i g K a w) (k : ∀ a1 w1, S23 M O R L c i g (K + 1) a1 w1 → wpL Tryd.prog Q rest a1 w1) : wpL Tryd.prog Q (itemN b23 4 :: itemN b23 5 :: rest) a w := by
  show wpL Tryd.prog Q ([itemN b23 4, itemN b23 5] ++ rest) a w
  obtain ⟨k0, X, h0, h1, hM, h⟩ := h
  refine h.items (ovI_ok _ _ _ _ _) nilC mix (fun c _ => hooksOk_nil c) (fun z => e23p3 M R.length c i k0 X z) (stX_held hM hi (by omega)) rfl (fun _ a1 w1 h2 => k a1 w1 ?_) fun hne => absurd rfl hne
  rw [nx_eq (by omega)] at h2
  exact ⟨_, _, by omega, by omega, hM.wr _ hi (by omega) (by omega) (of_eq i 2), h2⟩
theorem mp4 (hK : K ≤ 4611686018427000000) (hi : i < R.length) (h : S23 M O R L c i g K a w) (k : ∀ a1 w1, S23j M O R L c i 6 g (K + 1) 0 a1 w1 → wpL Tryd.prog Q rest a1 w1) : wpL Tryd.prog Q (itemN b23 6 :: itemN b23 7 :: itemN b23 8 :: rest) a w := by
  show wpL Tryd.prog Q ([itemN b23 6, itemN b23 7, itemN b23 8] ++ rest) a w
  obtain ⟨k0, X, h0, h1, hM, h⟩ := h
  refine h.items (ovI_ok _ _ _ _ _) nilC mix (fun c _ => hooksOk_nil c) (fun z => e23p4 M R.length c i k0 X z) (stX_held hM hi (by omega)) rfl (fun _ a1 w1 h2 => k a1 w1 ?_) fun hne => absurd rfl hne
  rw [nx_eq (by omega)] at h2
  exact ⟨_, _, by omega, by simp only [Int.natCast_zero, Int.cast_ofNat_Int]; omega, hM.wr _ hi (by omega) (by omega) (of_eq i 3), h2⟩
theorem mp5 (hK : K ≤ 4611686018427000000) (hi : i < R.length) (h : S23 M O R L c i g K a w) (k : ∀ a1 w1, S23 M O R L c i g (K + 1) a1 w1 → wpL Tryd.prog Q rest a1 w1) : wpL Tryd.prog Q (itemN b23 10 :: itemN b23 11 :: rest) a w := by
  show wpL Tryd.prog Q ([itemN b23 10, itemN b23 11] ++ rest) a w
  obtain ⟨k0, X, h0, h1, hM, h⟩ := h
  have hl := hM.len
  have ho := of_eq i 3
  refine h.items (ovI_ok _ _ _ _ _) nilC mix (fun c _ => hooksOk_nil c) (fun z => e23p5 M R.length c i k0 X z) (held_cons (by simp [inB]; omega) (held_one (by simp only [stB, Bool.and_eq_true, decide_eq_true_eq]; omega))) rfl (fun _ a1 w1 h2 => k a1 w1 ?_) fun hne => absurd rfl hne
  rw [nx_eq (by omega)] at h2
  exact ⟨_, _, by omega, by omega, hM.wr (c := 20) _ hi (by omega) (by omega) (by omega), h2⟩
theorem mp6 (hK : K ≤ 4611686018427000000) (hi : i < R.length) (h : S23 M O R L c i g K a w) (k : ∀ a1 w1, S23j M O R L c i 7 g (K + 1) 0 a1 w1 → wpL Tryd.prog Q rest a1 w1) : wpL Tryd.prog Q (itemN b23 13 :: itemN b23 14 :: itemN b23 15 :: rest) a w := by
  show wpL Tryd.prog Q ([itemN b23 13, itemN b23 14, itemN b23 15] ++ rest) a w
  obtain ⟨k0, X, h0, h1, hM, h⟩ := h
  refine h.items (ovI_ok _ _ _ _ _) nilC mix (fun c _ => hooksOk_nil c) (fun z => e23p6 M R.length c i k0 X z) (stX_held hM hi (by omega)) rfl (fun _ a1 w1 h2 => k a1 w1 ?_) fun hne => absurd rfl hne
  rw [nx_eq (by omega)] at h2
  exact ⟨_, _, by omega, by simp only [Int.natCast_zero, Int.cast_ofNat_Int]; omega, hM.wr _ hi (by omega) (by omega) (of_eq i 22), h2⟩
theorem mp7 (h : S23 M O R L c i g K a w) (k : ∀ a1 w1, S23j M O R L c i 8 g K 0 a1 w1 → wpL Tryd.prog Q rest a1 w1) : wpL Tryd.prog Q (itemN b23 17 :: rest) a w := by
  show wpL Tryd.prog Q ([itemN b23 17] ++ rest) a w
  obtain ⟨k0, X, h0, h1, hM, h⟩ := h
  refine h.items (ovI_ok _ _ _ _ _) nilC mix (fun c _ => hooksOk_nil c) (fun z => e23p7 M R.length c i k0 X z) (fun x hx => by cases hx) rfl (fun _ a1 w1 h2 => k a1 w1 ?_) fun hne => absurd rfl hne
  exact ⟨_, _, h0, by simp only [Int.natCast_zero, Int.cast_ofNat_Int]; omega, hM, h2⟩
theorem mq2 (hK : K ≤ 4611686018427000000) (hi : i < R.length) (h : S23j M O R L c i 6 g K 0 a w) (k : ∀ a1 w1, S23 M O R L c i g (K + 16) a1 w1 → wpL Tryd.prog Q rest a1 w1) : wpL Tryd.prog Q (.block 2 (.loop lp2) :: rest) a w := by
  refine wpL_cons (R := fun a' w' => S23 M O R L c i g (K + 16) a' w') (wp_block (wp_loop_idx (S23j M O R L c i 6 g K) 16 h (fun j a w hj h => ?_) fun a w h => ?_)) k
  · obtain ⟨k0, X, h0, h1, hM, h⟩ := h
    have hl := hM.len
    have ho := of_eq i 3
    refine wp_items lp2 (wpL_end ?_)
    refine h.items (ovI_ok _ _ _ _ _) nilC mix (fun c _ => hooksOk_nil c) (fun z => e23q2s M R.length c i k0 j X z) (held_cons (decide_eq_true (by omega)) (held_cons (by simp [inB]; omega) (held_cons (by simp [inB]; omega) (held_one (by simp only [stB, Int.toNat_natCast, Bool.and_eq_true, decide_eq_true_eq]; omega))))) rfl (fun _ a1 w1 h2 => ?_) fun hne => absurd rfl hne
    rw [nx_eq (by omega), nx_eq (k := (j : Int)) (by omega)] at h2
    exact ⟨rfl, _, _, by omega, by omega, hM.wr (c := 4 + j) _ hi (by omega) (by omega) (by rw [Int.toNat_natCast]; omega), h2⟩
  · obtain ⟨k0, X, h0, h1, hM, h⟩ := h
    refine wp_items lp2 (wpL_end ?_)
    refine h.items (ovI_ok _ _ _ _ _) nilC mix (fun c _ => hooksOk_nil c) (fun z => e23q2x M R.length c i k0 _ X z) (held_one (decide_eq_false (by omega))) rfl (fun he => by cases he) fun _ a1 w1 h2 => ?_
    exact ⟨by simp [AExit.to], rfl, k0, X, h0, by omega, hM, h2⟩
theorem mq4 (hK : K ≤ 4611686018427000000) (hi : i < R.length) (h : S23j M O R L c i 7 g K 0 a w) (k : ∀ a1 w1, S23 M O R L c i g (K + 32) a1 w1 → wpL Tryd.prog Q rest a1 w1) : wpL Tryd.prog Q (.block 4 (.loop lp4) :: rest) a w := by
  refine wpL_cons (R := fun a' w' => S23 M O R L c i g (K + 32) a' w') (wp_block (wp_loop_idx (S23j M O R L c i 7 g K) 32 h (fun j a w hj h => ?_) fun a w h => ?_)) k
  · obtain ⟨k0, X, h0, h1, hM, h⟩ := h
    have hl := hM.len
    have ho := of_eq i 23
    refine wp_items lp4 (wpL_end ?_)
    refine h.items (ovI_ok _ _ _ _ _) nilC mix (fun c _ => hooksOk_nil c) (fun z => e23q4s M R.length c i k0 j X z) (held_cons (decide_eq_true (by omega)) (held_cons (by simp [inB]; omega) (held_cons (by simp [inB]; omega) (held_one (by simp only [stB, Int.toNat_natCast, Bool.and_eq_true, decide_eq_true_eq]; omega))))) rfl (fun _ a1 w1 h2 => ?_) fun hne => absurd rfl hne
    rw [nx_eq (by omega), nx_eq (k := (j : Int)) (by omega)] at h2
    exact ⟨rfl, _, _, by omega, by omega, hM.wr (c := 23 + j) _ hi (by omega) (by omega) (by rw [Int.toNat_natCast]; omega), h2⟩
  · obtain ⟨k0, X, h0, h1, hM, h⟩ := h
    refine wp_items lp4 (wpL_end ?_)
    refine h.items (ovI_ok _ _ _ _ _) nilC mix (fun c _ => hooksOk_nil c) (fun z => e23q4x M R.length c i k0 _ X z) (held_one (decide_eq_false (by omega))) rfl (fun he => by cases he) fun _ a1 w1 h2 => ?_
    exact ⟨by simp [AExit.to], rfl, k0, X, h0, by omega, hM, h2⟩
theorem mq6 (hK : K ≤ 4611686018427000000) (hi : i < R.length) (h : S23j M O R L c i 8 g K 0 a w) (k : ∀ a1 w1, S23 M O R L c i g (K + 32) a1 w1 → wpL Tryd.prog Q rest a1 w1) : wpL Tryd.prog Q (.block 6 (.loop lp6) :: rest) a w := by
  refine wpL_cons (R := fun a' w' => S23 M O R L c i g (K + 32) a' w') (wp_block (wp_loop_idx (S23j M O R L c i 8 g K) 32 h (fun j a w hj h => ?_) fun a w h => ?_)) k
  · obtain ⟨k0, X, h0, h1, hM, h⟩ := h
    have hl := hM.len
    have ho := of_eq i 55
    refine wp_items lp6 (wpL_end ?_)
    refine h.items (ovI_ok _ _ _ _ _) nilC mix (fun c _ => hooksOk_nil c) (fun z => e23q6s M R.length c i k0 j X z) (held_cons (decide_eq_true (by omega)) (held_cons (by simp [inB]; omega) (held_cons (by simp [inB]; omega) (held_one (by simp only [stB, Int.toNat_natCast, Bool.and_eq_true, decide_eq_true_eq]; omega))))) rfl (fun _ a1 w1 h2 => ?_) fun hne => absurd rfl hne
    rw [nx_eq (by omega), nx_eq (k := (j : Int)) (by omega)] at h2
    exact ⟨rfl, _, _, by omega, by omega, hM.wr (c := 55 + j) _ hi (by omega) (by omega) (by rw [Int.toNat_natCast]; omega), h2⟩
  · obtain ⟨k0, X, h0, h1, hM, h⟩ := h
    refine wp_items lp6 (wpL_end ?_)
    refine h.items (ovI_ok _ _ _ _ _) nilC mix (fun c _ => hooksOk_nil c) (fun z => e23q6x M R.length c i k0 _ X z) (held_one (decide_eq_false (by omega))) rfl (fun he => by cases he) fun _ a1 w1 h2 => ?_
    exact ⟨by simp [AExit.to], rfl, k0, X, h0, by omega, hM, h2⟩

/-- The bytes of the rows from number i on are known cells; what is known besides is kept. -/
structure Gk (M0 : Mem) (R : List Row) (L : List Cp) (gx : Gho) (i : Nat) (g : Gho) : Prop where
  row : ∀ (j : Nat) r p, i ≤ j → R[j]? = some r → L[j]? = some p → 0 < r.2.len → g p.b (.cells (cellsI .u8 r.2.len (r.2.byte M0)))
  ext : ∀ b x, gx b x → g b x
theorem mby {M0 : Mem} {gx : Gho} (hO : O.h = []) (hcp : CpOk M0 R L q) (hgx : ∀ b x y, gx b x → ¬ repG M0 R L q b y) (hlen : ∀ r ∈ R, r.2.len ≤ 1048576) (hK : 0 ≤ K ∧ K ≤ 4611686018400000000) (hi : i < R.length) (hg : Gk M0 R L gx i g) (h : S23 M O R L c i g K a w)
    (k : ∀ g' a1 w1, Gk M0 R L gx (i + 1) g' → S23 M O R L c i g' (K + 1048576) a1 w1 → wpL Tryd.prog Q rest a1 w1) : wpL Tryd.prog Q (itemN b23 12 :: rest) a w := by
  obtain ⟨k0, X, h0, h1, hM, h⟩ := h
  have hl := hM.len
  obtain ⟨r, hr⟩ : ∃ r, R[i]? = some r := ⟨_, List.getElem?_eq_getElem hi⟩
  obtain ⟨p, hp⟩ : ∃ p, L[i]? = some p := ⟨_, List.getElem?_eq_getElem (by rw [hcp.len]; exact hi)⟩
  have hm := hlen r (List.mem_of_getElem? hr)
  have hsl := hM.sl i r p hr hp
  show (itemN b23 12).wp Tryd.prog (Exit.then (wpL Tryd.prog Q rest) Q) a w
  refine wp_rgn r23_f r23_r ?_
  refine h.opsU (ovF_ok 26 _ _ _ _) nilC (fun z => e23l M R.length c i k0 X z p.b r.2.len p.c) (held_cons (by simp [inB]; omega) (held_one (by
    rw [of_eq]
    simp only [Bool.and_eq_true, decide_eq_true_eq]
    exact ⟨hl, hsl⟩))) rfl fun a2 w2 h2 => ?_
  by_cases hz : r.2.len = 0
  · rw [hz] at h2
    refine h2.opsU (ovI_ok _ _ _ _ _) (consC (conSum_sound Tryd.func11 (by kernel_rfl) (by kernel_rfl) (acalls_of_evFU (ovI_ok _ _ _ _ _) nilC mix Tryd.func11 (hooksOk_nil _) (e11z M k0 p.b p.c) held_nil)) nilC) (fun z => e23z M R.length c i k0 X z p.b p.c) (held_one (fact_iff.2 rfl)) rfl fun a3 w3 h3 => ?_
    exact k g a3 w3 ⟨fun j r' p' hj => hg.row j r' p' (by omega), hg.ext⟩ ⟨k0, X, h0, by omega, hM, h3⟩
  · have hpos : 0 < r.2.len := by omega
    have hgp := hg.row i r p (Nat.le_refl _) hr hp hpos
    have hcap := hcp.caps i r p hr hp
    have h3 := noNames <| h2.openS hgp 1 (by rfl) (V' := [slM R.length c, .int .i64 i, .slice (some ⟨1, 0, some r.2.len⟩) r.2.len p.c, .int .i64 k0]) hcap (by
      rw [cellsI_length]
      exact ⟨.inl rfl, .inl rfl, .inr ⟨rfl, rfl⟩, .inl rfl, trivial⟩)
    refine h3.opsU (ovI_ok _ _ _ _ _) (consC (markSum11_sound M) nilC) (fun z => e23m M R.length c i k0 X z r.2.len r.2.len p.c _ rfl) (held_one ?_) rfl fun a4 w4 h4 => ?_
    · rw [sliceB_iff]
      refine ⟨cellsI_length .., by omega, by omega, ?_⟩
      simp only [cut, List.drop_zero, List.all_eq_true]
      intro v hv
      have hv := List.mem_of_mem_take hv
      simp only [cellsI, List.mem_map] at hv
      obtain ⟨j, _, rfl⟩ := hv
      rfl
    have h5 := h4.compact (keep := [0]) (i0 := 0) (V' := vs23 R.length c (cnt64 k0 r.2.len) i) (lo := [⟨X, false, 1, true⟩]) (compact_of (objs := [⟨X, false, 1, true⟩]) (o := ⟨X, false, 1, true⟩) rfl rfl (by kernel_rfl) (by kernel_rfl) rfl (by simp only; omega)) (fun k hk => by rw [hO] at hk; exact absurd hk (by simp))
    rw [cnt64_eq h0 (by omega)] at h5
    refine k _ a4 w4 ⟨fun j r' p' hj hr' hp' hpos' => ⟨hg.row j r' p' (by omega) hr' hp' hpos', hcp.dist j i r' r p' p hr' hp' hr hp hpos' hpos (by omega)⟩, fun b x hx => ⟨hg.ext b x hx, fun e => ?_⟩⟩ ⟨_, X, by omega, by omega, hM, h5⟩
    subst e
    exact hgx _ x _ hx (.inl ⟨i, r, p, hr, hp, hpos, rfl, rfl⟩)
end

section
variable {M M0 : Mem} {O : Org} {R : List Row} {L : List Cp} {q : Cp} {gx : Gho}
def I23 (M M0 : Mem) (O : Org) (R : List Row) (L : List Cp) (c : Nat) (gx : Gho) (i : Nat) (a : Go.Act) (w : World) : Prop :=
  ∃ g, Gk M0 R L gx i g ∧ S23 M O R L c i g (1 + i * 2000000) a w
theorem rows23 (hO : O.h = []) (hcp : CpOk M0 R L q) (hgx : ∀ b x y, gx b x → ¬ repG M0 R L q b y) (hlen : ∀ r ∈ R, r.2.len ≤ 1048576) {c i : Nat} (hi : i < R.length) {K : Int} (h0 : 0 ≤ K) (hK : K ≤ 4611686018300000000) {g : Gho} (hg : Gk M0 R L gx i g) {a : Go.Act} {w : World} {Q : Exit → Go.Act → World → Prop} (h : S23 M O R L c i g K a w)
    (k : ∀ g' a1 w1, Gk M0 R L gx (i + 1) g' → S23 M O R L c i g' (K + 1500000) a1 w1 → Q .normal a1 w1) : wpL Tryd.prog Q (items b23) a w := by
  rw [itemsB23]
  refine mp1 (by omega) hi h fun a w h => mp2 (by omega) hi h fun a w h => mp3 (by omega) hi h fun a w h => mp4 (by omega) hi h fun a w h => mq2 (by omega) hi h fun a w h => mp5 (by omega) hi h fun a w h => mby hO hcp hgx hlen (by omega) hi hg h fun g' a w hg' h => mp6 (by omega) hi h fun a w h => mq4 (by omega) hi h fun a w h => mp7 h fun a w h => mq6 (by omega) hi h fun a w h => k g' a w hg' ?_
  obtain ⟨k1, X1, h4, h5, h6, h7⟩ := h
  exact ⟨k1, X1, h4, by omega, h6, h7⟩
theorem round23 (hO : O.h = []) (hcp : CpOk M0 R L q) (hgx : ∀ b x y, gx b x → ¬ repG M0 R L q b y) (hn : R.length ≤ 1048576) (hlen : ∀ r ∈ R, r.2.len ≤ 1048576) {c i : Nat} (hi : i < R.length) {a : Go.Act} {w : World} (h : I23 M M0 O R L c gx i a w) :
    loop23.wp Tryd.prog (fun e a' w' => e = .normal ∧ I23 M M0 O R L c gx (i + 1) a' w') a w := by
  obtain ⟨g, hg, h⟩ := h
  refine wp_items loop23 ?_
  rw [itemsL23]
  obtain ⟨k0, X, h0, h1, hM, h⟩ := h
  show wpL Tryd.prog _ ([itemN loop23 0, itemN loop23 1] ++ [.block 1 b23, itemN loop23 3]) a w
  refine h.items (ovI_ok _ _ _ _ _) nilC mix (fun c _ => hooksOk_nil c) (fun z => e23s M R.length c i k0 X z) (held_one (decide_eq_true (by omega))) rfl (fun _ a1 w1 h2 => ?_) fun hne => absurd rfl hne
  have hS : S23 M O R L c i g (1 + i * 2000000) a1 w1 := ⟨k0, X, h0, h1, hM, h2⟩
  refine wpL_cons (R := fun a' w' => ∃ g', Gk M0 R L gx (i + 1) g' ∧ S23 M O R L c i g' (1 + i * 2000000 + 1500000) a' w') (wp_block_items (rows23 hO hcp hgx hlen hi (by omega) (by omega) hg hS fun g' a w hg' h => ⟨rfl, g', hg', h⟩)) fun a2 w2 ⟨g', hg', h3⟩ => ?_
  obtain ⟨k1, X1, h4, h5, h6, h7⟩ := h3
  show wpL Tryd.prog _ ([itemN loop23 3] ++ []) a2 w2
  refine h7.items (ovI_ok _ _ _ _ _) nilC mix (fun c _ => hooksOk_nil c) (fun z => e23i M R.length c i k1 X1 z) (fun x hx => by cases hx) rfl (fun _ a3 w3 h8 => ?_) fun hne => absurd rfl hne
  rw [nextC hi hn] at h8
  exact ⟨rfl, g', hg', k1, X1, h4, by omega, h6, h8⟩

def MarkR (gx : Gho) (v : Value) (g1 : Gho) : Prop := (∃ k : Int, v = .int .i64 k ∧ 0 ≤ k) ∧ g1 = gx
theorem e23z0 (M : Mem) (B c : Nat) (k : Int) : viewU [4] (evL Tryd.prog M (ovN Tryd.prog M) [] [] [] [] 400 [itemN c23 0, itemN c23 1, .block 0 (.loop loop23), itemN c23 3, itemN c23 4] ⟨[cpS B 0 c, .int .i64 k] ++ List.replicate (Tryd.f23.ntmps - 2) undef, []⟩ [])
   = some (.ret, [.int .i64 k], [], Tryd.f23.ntmps, []) := by kernel_rfl
theorem mark23 (hO : O.h = []) (hcp : CpOk M0 R L q) (hn : R.length ≤ 1048576) (hlen : ∀ r ∈ R, r.2.len ≤ 1048576) (gx : Gho) (hgx : ∀ b x y, gx b x → ¬ repG M0 R L q b y) {w : World} (hs : StG M O (fun b x => repG M0 R L q b x ∨ gx b x) w) :
    Calls Tryd.prog 23 #[q.sl R.length, .int .i64 1] w fun e w' => ∃ v g1, e = .returned v ∧ ground v = true ∧ MarkR gx v g1 ∧ StG M O g1 w' := by
  refine calls_in hO Tryd.func23 body23 (args := [q.sl R.length, .int .i64 1]) rfl hs fun a hat => ?_
  refine wp_items c23 ?_
  rw [items23]
  by_cases h0 : R.length = 0
  · rw [h0] at hat
    show wpL Tryd.prog _ ([itemN c23 0, itemN c23 1, .block 0 (.loop loop23), itemN c23 3, itemN c23 4] ++ []) a w
    refine hat.items (ovI_ok _ _ _ _ _) nilC mix (fun c _ => hooksOk_nil c) (e23z0 M q.b q.c 1) (fun x hx => by cases hx) rfl (fun he => by cases he) fun _ a3 w3 h3 => ?_
    obtain ⟨z, h3⟩ := h3.weaken (g' := gx) fun b x hx => .inr hx
    exact ⟨.inr rfl, _, _, gx, .int .i64 1, h3, by kernel_rfl, rfl, ⟨1, rfl, by omega⟩, rfl⟩
  · have hpos : 0 < R.length := by omega
    have hq : repG M0 R L q q.b (.cells (rowsC R L)) := .inr ⟨hpos, rfl, rfl⟩
    have h1 := AtV.of hat [0, 1]
    have h2 := noNames <| h1.openS (.inl hq) 1 (by rfl) (V' := [slM R.length q.c, .int .i64 1]) hcp.cap (by
      have e : ([] : AHeap).length = 0 := rfl
      rw [rowsC_length hcp.len.symm]
      exact ⟨.inr ⟨rfl, rfl⟩, .inl rfl, trivial⟩)
    have hg0 : Gk M0 R L gx 0 (fun b' x => (repG M0 R L q b' x ∨ gx b' x) ∧ b' ≠ q.b) := ⟨fun j r p _ hr hp hpos' => ⟨.inl (.inl ⟨j, r, p, hr, hp, hpos', rfl, rfl⟩), hcp.apart _ _ ⟨j, r, p, hr, hp, hpos', rfl, rfl⟩⟩, fun b x hx => ⟨.inr hx, fun e => hgx b x _ hx (e ▸ hq)⟩⟩
    show wpL Tryd.prog _ ([itemN c23 0, itemN c23 1] ++ [.block 0 (.loop loop23), itemN c23 3, itemN c23 4]) a w
    refine h2.items (ovI_ok _ _ _ _ _) nilC mix (fun c _ => hooksOk_nil c) (fun z => e23a M (rowsC R L) z (slM R.length q.c) (.int .i64 1)) (fun x hx => by cases hx) rfl (fun _ a1 w1 h3 => ?_) fun hne => absurd rfl hne
    refine wpL_cons (R := fun a' w' => ∃ (k : Int) (X : List Value), 0 ≤ k ∧ AtV M O Tryd.f23.ntmps [1] [.int .i64 k] (mO X) [] gx a' w') (wp_block (wp_loop_idx (I23 M M0 O R L q.c gx) R.length ⟨_, hg0, 1, _, by omega, by omega, mk_start hcp.len, h3⟩ (fun i a w hi hI => round23 hO hcp hgx hn hlen hi hI) fun a w hI => ?_)) fun a2 w2 ⟨k, X, hk, h4⟩ => ?_
    · obtain ⟨g, hg, k0, X, h5, h6, h7, h8⟩ := hI
      refine wp_items loop23 (wpL_end ?_)
      refine h8.items (ovI_ok _ _ _ _ _) nilC mix (fun c _ => hooksOk_nil c) (fun z => e23x M R.length q.c R.length k0 X z) (held_one (decide_eq_false (by omega))) rfl (fun he => by cases he) fun _ a3 w3 h9 => ?_
      exact ⟨by simp [AExit.to], rfl, k0, X, h5, h9.weaken fun b x hx => hg.ext b x hx⟩
    · show wpL Tryd.prog _ ([itemN c23 3, itemN c23 4] ++ []) a2 w2
      refine h4.items (ovI_ok _ _ _ _ _) nilC mix (fun c _ => hooksOk_nil c) (fun z => e23e M k X z) (fun x hx => by cases hx) rfl (fun he => by cases he) fun _ a3 w3 h9 => ?_
      obtain ⟨z, h9⟩ := h9
      exact ⟨.inr rfl, _, _, gx, .int .i64 k, h9, by kernel_rfl, rfl, ⟨k, rfl, hk⟩, rfl⟩

noncomputable def c10 : Code := Tryd.f10.body.getD .skip
theorem body10 : Tryd.f10.body = some c10 := by kernel_rfl
theorem items10 : items c10 = [itemN c10 0, itemN c10 1, itemN c10 2, itemN c10 3] := by kernel_rfl
theorem r10_f : drawOf (itemN c10 1) = false := by kernel_rfl
theorem r10_r : List.range (opsOf (itemN c10 1)).size = [0, 1, 2] ++ (3 :: ([4] ++ [])) := by kernel_rfl
theorem r10_o : (opsOf (itemN c10 1))[3]? = some (opAt (itemN c10 1) 3) := by kernel_rfl
theorem r10_g : (opAt (itemN c10 1) 3).guard = none := by kernel_rfl
theorem r10_d : (opAt (itemN c10 1) 3).dst = some 8 := by kernel_rfl
theorem r10_p : (opAt (itemN c10 1) 3).op = .call ⟨.value (.func 23), #[.tmp 6, .tmp 7], #[28, 3]⟩ := by kernel_rfl
theorem enters23 : Go.Ab.Enters Tryd.prog 23 := ⟨_, Tryd.func23, by kernel_rfl, by kernel_rfl⟩
section
variable (M : Mem) (q : Cp) (n : Nat) (dh code k : Int) (z : Nat → Value) (v : Value)
theorem e10a : viewU [1, 2] (evL Tryd.prog M (ovN Tryd.prog M) [] [] [] [] 200 [itemN c10 0] ⟨[.agg ⟨repL (q.sl n) dh code⟩, .int .i64 k] ++ List.replicate (Tryd.f10.ntmps - 2) undef, []⟩ [])
   = some (.normal, [.int .i64 k, p3 0], [boxO (repL (q.sl n) dh code)], Tryd.f10.ntmps, []) := by kernel_rfl
theorem e10b : viewW [6, 7] (rtraceU Tryd.prog M (ovN Tryd.prog M) [] [] [] (fun l => l) (opsOf (itemN c10 1)) [0, 1, 2] ⟨mkT Tryd.f10.ntmps [1, 2] [.int .i64 k, p3 0] z, [boxO (repL (q.sl n) dh code)]⟩ [])
   = some ([q.sl n, .int .i64 k], [boxO (repL (q.sl n) dh code)], Tryd.f10.ntmps, []) := by kernel_rfl
theorem e10c : lookT (aput (mkT Tryd.f10.ntmps [6, 7] [q.sl n, .int .i64 k] z) (some 8) v) [8] = [v] := by kernel_rfl
theorem e10d : viewW [1] (rtraceU Tryd.prog M (ovN Tryd.prog M) [] [] [] (fun l => l) (opsOf (itemN c10 1)) [4] ⟨mkT Tryd.f10.ntmps [8] [.int .i64 k] z, [boxO (repL (q.sl n) dh code)]⟩ [])
   = some ([.int .i64 k], [boxO (repL (q.sl n) dh code)], Tryd.f10.ntmps, []) := by kernel_rfl
theorem e10e : viewU [4] (evL Tryd.prog M (ovN Tryd.prog M) [] [] [] [] 200 [itemN c10 2, itemN c10 3] ⟨mkT Tryd.f10.ntmps [1] [.int .i64 k] z, [boxO (repL (q.sl n) dh code)]⟩ [])
   = some (.ret, [.int .i64 k], [boxO (repL (q.sl n) dh code)], Tryd.f10.ntmps, []) := by kernel_rfl
end
theorem mark10 (hO : O.h = []) (hcp : CpOk M0 R L q) (hn : R.length ≤ 1048576) (hlen : ∀ r ∈ R, r.2.len ≤ 1048576) {dh code : Int} (gx : Gho) (hgx : ∀ b x y, gx b x → ¬ repG M0 R L q b y) {w : World} (hs : StG M O (fun b x => repG M0 R L q b x ∨ gx b x) w) :
    Calls Tryd.prog 10 #[.agg ⟨repL (q.sl R.length) dh code⟩, .int .i64 1] w fun e w' => ∃ v g1, e = .returned v ∧ ground v = true ∧ MarkR gx v g1 ∧ StG M O g1 w' := by
  refine calls_in hO Tryd.func10 body10 (args := [.agg ⟨repL (q.sl R.length) dh code⟩, .int .i64 1]) rfl hs fun a hat => ?_
  refine wp_items c10 ?_
  rw [items10]
  show wpL Tryd.prog _ ([itemN c10 0] ++ [itemN c10 1, itemN c10 2, itemN c10 3]) a w
  refine hat.items (ovI_ok _ _ _ _ _) nilC mix (fun c _ => hooksOk_nil c) (e10a M q R.length dh code 1) (fun x hx => by cases hx) rfl (fun _ a1 w1 h1 => ?_) fun hne => absurd rfl hne
  show (itemN c10 1).wp Tryd.prog (Exit.then (wpL Tryd.prog _ [itemN c10 2, itemN c10 3]) _) a1 w1
  refine wp_rgn r10_f r10_r ?_
  refine h1.opsU (ovI_ok _ _ _ _ _) nilC (fun z => e10b M q R.length dh code 1 z) (fun x hx => by cases hx) rfl fun a2 w2 h2 => ?_
  refine h2.callIn hO r10_o r10_g r10_p (fun z => by kernel_rfl) enters23 (us := [q.sl R.length, .int .i64 1]) (fun z => by kernel_rfl) rfl (R := MarkR gx) (fun gx' hd hst => ?_) (live' := [8]) (V' := fun v => [v]) (fun z v => by rw [r10_d]; exact e10c q R.length 1 z v) fun v g1 w3 hR h3 => ?_
  · refine (mark23 hO hcp hn hlen (fun b x => gx b x ∨ gx' b x) (fun b x y hx => ?_) ⟨hst.r0, hst.tr, fun b x hx => hst.g b x ?_⟩).mono ?_
    · rcases hx with hx | hx
      · exact hgx b x y hx
      · exact fun hy => hd b x y hx (.inl hy)
    · rcases hx with hx | hx | hx
      · exact .inl (.inl hx)
      · exact .inl (.inr hx)
      · exact .inr hx
    · rintro e w' ⟨v, g1, rfl, hgv, ⟨hk, rfl⟩, hst'⟩
      exact ⟨v, gx, rfl, hgv, ⟨⟨hk, rfl⟩, fun b x hx => ⟨x, .inr hx⟩⟩, hst'⟩
  · obtain ⟨⟨k, rfl, hk⟩, rfl⟩ := hR
    refine h3.opsU (ovI_ok _ _ _ _ _) nilC (fun z => e10d M q R.length dh code k z) (fun x hx => by cases hx) rfl fun a4 w4 h4 => ?_
    show wpL Tryd.prog _ ([itemN c10 2, itemN c10 3] ++ []) a4 w4
    refine h4.items (ovI_ok _ _ _ _ _) nilC mix (fun c _ => hooksOk_nil c) (fun z => e10e M q R.length dh code k z) (fun x hx => by cases hx) rfl (fun he => by cases he) fun _ a5 w5 h5 => ?_
    obtain ⟨z, h5⟩ := h5
    exact ⟨.inr rfl, _, _, _, .int .i64 k, h5, by kernel_rfl, rfl, ⟨k, rfl, hk⟩, rfl⟩
end
end Go.Proofs.YtfkdcpinajnbfaaDoor
