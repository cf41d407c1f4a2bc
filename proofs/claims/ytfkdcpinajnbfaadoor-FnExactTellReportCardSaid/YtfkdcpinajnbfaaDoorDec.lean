/- The reference's decimal text (l8Dec): the same text as strconv.Itoa's.
   Conditions: none. -/
import Derived.Test.YtfkdcpinajnbfaaDoorReport
import Derived.Test.YtfkdcpinajnbfaaDoorItoa
open Go.Ab Go.Num
set_option linter.unusedVariables false
set_option linter.unusedSimpArgs false
namespace Go.Proofs.YtfkdcpinajnbfaaDoor
set_option maxRecDepth 100000
/-- Bytes as cells. -/
def tx (l : List UInt8) : List Value := l.map fun b => .int .u8 (b.toNat : Int)
theorem tx_length (l : List UInt8) : (tx l).length = l.length := by simp [tx]
theorem tx_append (a b : List UInt8) : tx (a ++ b) = tx a ++ tx b := by simp [tx]
theorem tx_cons (a : UInt8) (b : List UInt8) : tx (a :: b) = .int .u8 (a.toNat : Int) :: tx b := rfl
theorem tx_flat (l : List UInt8) : groundL (tx l) = true := by
  rw [groundL_iff]
  intro v hv
  simp only [tx, List.mem_map] at hv
  obtain ⟨b, _, rfl⟩ := hv
  rfl
theorem tx_take (l : List UInt8) : ((tx l).drop 0).take (l.length * 1) = tx l := by
  rw [List.drop_zero, Nat.mul_one, List.take_of_length_le (by rw [tx_length]; exact Nat.le_refl _)]
theorem tx_take0 (l : List UInt8) : (tx l).take (l.length * 1) = tx l := by
  rw [Nat.mul_one, List.take_of_length_le (by rw [tx_length]; exact Nat.le_refl _)]
/-- An object of bytes, and a slice of all of it. -/
abbrev txO (l : List UInt8) : AObj := ⟨tx l, true, 1, true⟩
abbrev slN (i n : Nat) : Value := .slice (some ⟨i, 0, some n⟩) n n

noncomputable def c14 : Code := Tryd.f14.body.getD .skip
noncomputable def loop14 : Code := loopOf 0 c14
theorem body14 : Tryd.f14.body = some c14 := by kernel_rfl
theorem items14 : items c14 = [itemN c14 0, itemN c14 1, itemN c14 2, itemN c14 3, itemN c14 4, .block 0 (.loop loop14), itemN c14 6, itemN c14 7, itemN c14 8, itemN c14 9] := by kernel_rfl
/-- What an append of a slice of an object asks: the row's cells and length; the source's cells, its length, the object's. -/
def apS (X : List Value) (l : Nat) (Y : List Value) (n m : Nat) : Bool := Nat.beq 0 0 && (Nat.beq 1 1 && (decide (l = l) && (decide (l = l * 1) && (decide (X.length = l) && (room (l + n) 1 && (okC true ((Y.drop 0).take (n * 1)) true && (decide (Y.length = m) && (decide (0 + n * 1 ≤ m) && decide (n ≤ n)))))))))
theorem room_ok {n : Nat} (h : n ≤ 10000000000000) : room n 1 = true := by
  simp only [room, decide_eq_true_eq]; omega
theorem apS_ok {X : List Value} {l : Nat} {Y : List Value} {n m : Nat} (h1 : X.length = l) (h2 : Y.length = m) (h3 : n ≤ m) (h4 : l + n ≤ 10000000000000) : apS X l Y n m = true := by
  have h5 := room_ok h4
  simp only [apS, h5, h1, h2, okC, Nat.mul_one, Nat.zero_add, h3, decide_true, Bool.and_self, Bool.true_or, Nat.beq_refl, Nat.le_refl]
section
variable (M : Mem) (v u : Int) (n : Nat) (X : List Value) (z : Nat → Value)
def dgI (u : Int) : Value := .int .u8 (IntKind.u8.wrap (IntKind.u64.wrap (48 + u.tmod 10)))
theorem e14p : viewU [0, 3, 4] (evL Tryd.prog M (ovX Tryd.prog M) [] [] [] [8] 200 [itemN c14 0, itemN c14 1, itemN c14 2, itemN c14 3, itemN c14 4] ⟨[.int .i64 v] ++ List.replicate (Tryd.f14.ntmps - 1) undef, []⟩ [false])
   = some (.normal, [.int .i64 v, .int .u64 (IntKind.u64.wrap v), slN 0 1], [some ⟨[dgI (IntKind.u64.wrap v)], true, 1, true⟩], Tryd.f14.ntmps, [(decide (v < 0), false)]) := by kernel_rfl
theorem e14n : viewU [0, 3, 4] (evL Tryd.prog M (ovX Tryd.prog M) [] [] [] [8] 200 [itemN c14 0, itemN c14 1, itemN c14 2, itemN c14 3, itemN c14 4] ⟨[.int .i64 v] ++ List.replicate (Tryd.f14.ntmps - 1) undef, []⟩ [true])
   = some (.normal, [.int .i64 v, .int .u64 (IntKind.u64.wrap (0 - IntKind.u64.wrap v)), slN 0 1], [some ⟨[dgI (IntKind.u64.wrap (0 - IntKind.u64.wrap v))], true, 1, true⟩], Tryd.f14.ntmps, [(decide (v < 0), true)]) := by kernel_rfl
theorem e14s : viewU [0, 3, 4] (evL Tryd.prog M (ovX Tryd.prog M) [26] [] [] [17] 200 (items loop14) ⟨mkT Tryd.f14.ntmps [0, 3, 4] [.int .i64 v, .int .u64 u, slN 0 n] z, [some ⟨X, true, 1, true⟩]⟩ [true])
   = some (.normal, [.int .i64 v, .int .u64 (IntKind.u64.wrap (u.tdiv 10)), .slice (some ⟨1, 0, some ((1 + n) * 1)⟩) (1 + n) (1 + n)], [some ⟨X, true, 1, true⟩, some ⟨dgI (IntKind.u64.wrap (u.tdiv 10)) :: (X.drop 0).take (n * 1), true, 1, true⟩], Tryd.f14.ntmps,
      [(decide (u ≥ 10), true), (apS [dgI (IntKind.u64.wrap (u.tdiv 10))] 1 X n n, true)]) := by kernel_rfl
theorem e14x : viewU [0, 3, 4] (evL Tryd.prog M (ovX Tryd.prog M) [] [] [] [17] 200 (items loop14) ⟨mkT Tryd.f14.ntmps [0, 3, 4] [.int .i64 v, .int .u64 u, slN 0 n] z, [some ⟨X, true, 1, true⟩]⟩ [false])
   = some (.exit 0, [.int .i64 v, .int .u64 u, slN 0 n], [some ⟨X, true, 1, true⟩], Tryd.f14.ntmps, [(decide (u ≥ 10), false)]) := by kernel_rfl
theorem e14y : viewU [2] (evL Tryd.prog M (ovX Tryd.prog M) [31] [] [] [28] 200 [itemN c14 6, itemN c14 7, itemN c14 8, itemN c14 9] ⟨mkT Tryd.f14.ntmps [0, 3, 4] [.int .i64 v, .int .u64 u, slN 0 n] z, [some ⟨X, true, 1, true⟩]⟩ [true])
   = some (.ret, [.slice (some ⟨1, 0, some ((1 + n) * 1)⟩) (1 + n) (1 + n)], [some ⟨X, true, 1, true⟩, some ⟨.int .u8 45 :: (X.drop 0).take (n * 1), true, 1, true⟩], Tryd.f14.ntmps, [(decide (v < 0), true), (apS [.int .u8 45] 1 X n n, true)]) := by kernel_rfl
theorem e14z : viewU [2] (evL Tryd.prog M (ovX Tryd.prog M) [] [] [] [28] 200 [itemN c14 6, itemN c14 7, itemN c14 8, itemN c14 9] ⟨mkT Tryd.f14.ntmps [0, 3, 4] [.int .i64 v, .int .u64 u, slN 0 n] z, [some ⟨X, true, 1, true⟩]⟩ [false])
   = some (.ret, [slN 0 n], [some ⟨X, true, 1, true⟩], Tryd.f14.ntmps, [(decide (v < 0), false)]) := by kernel_rfl
end

theorem dgI_eq {u : Nat} : dgI (u : Int) = .int .u8 ((UInt8.ofNat (48 + u % 10)).toNat : Int) := by
  have h1 : (u : Int).tmod 10 = ((u % 10 : Nat) : Int) := by rw [Int.tmod_eq_emod_of_nonneg (by omega)]; omega
  have hm : u % 10 < 10 := Nat.mod_lt _ (by omega)
  have e : ∀ d : Fin 10, IntKind.u8.wrap (IntKind.u64.wrap (48 + ((d.val : Nat) : Int))) = ((UInt8.ofNat (48 + d.val)).toNat : Int) := by decide
  unfold dgI
  rw [h1, e ⟨u % 10, hm⟩]
theorem wrapU (n : Int) : IntKind.u64.wrap n = n % 18446744073709551616 := by
  simp only [IntKind.wrap, IntKind.signed, IntKind.bits, Bool.false_and, Bool.false_eq_true, if_false]
  rfl
theorem wrap64 {u : Nat} (h : u < 18446744073709551616) : IntKind.u64.wrap (u : Int) = u := by
  rw [wrapU]; omega
theorem div10 {u : Nat} (h : u < 18446744073709551616) : IntKind.u64.wrap ((u : Int).tdiv 10) = ((u / 10 : Nat) : Int) := by
  have : (u : Int).tdiv 10 = ((u / 10 : Nat) : Int) := by rw [Int.tdiv_eq_ediv_of_nonneg (by omega)]; omega
  rw [this]
  exact wrap64 (by omega)

/-- What is still to come ahead. -/
def pre10 (u : Nat) : List UInt8 := if u < 10 then [] else Lib.decDigits (u / 10)
theorem pre10_start (u : Nat) : pre10 u ++ [UInt8.ofNat (48 + u % 10)] = Lib.decDigits u := by
  unfold pre10
  split
  · rename_i h; rw [Lib.decDigits, dif_pos h, Nat.mod_eq_of_lt h]; rfl
  · rename_i h; conv => rhs; rw [Lib.decDigits, dif_neg h]
theorem pre10_step {u : Nat} (h : ¬ u < 10) (l : List UInt8) : pre10 (u / 10) ++ (UInt8.ofNat (48 + u / 10 % 10) :: l) = pre10 u ++ l := by
  have := pre10_start (u / 10)
  rw [show pre10 u = Lib.decDigits (u / 10) by unfold pre10; rw [if_neg h], ← this]
  simp

def I14 (M : Mem) (O : Org) (v : Int) (u0 i : Nat) (a : Go.Act) (w : World) : Prop :=
  ∃ (u : Nat) (l : List UInt8), Lib.nDigits u + i = Lib.nDigits u0 ∧ u < 18446744073709551616 ∧ l.length = i + 1 ∧ pre10 u ++ l = Lib.decDigits u0 ∧ AtV M O Tryd.f14.ntmps [0, 3, 4] [.int .i64 v, .int .u64 u, slN 0 l.length] [some (txO l)] [] (fun _ _ => False) a w

theorem nDigits_le20 {u : Nat} (h : u < 18446744073709551616) : Lib.nDigits u ≤ 20 := by
  have hle : ∀ (k u : Nat), u < 10 ^ k → 1 ≤ k → Lib.nDigits u ≤ k := by
    intro k
    induction k with
    | zero => intro u _ h; omega
    | succ k ih =>
      intro u hu _
      by_cases h : u < 10
      · rw [Lib.nDigits_small h]; omega
      · rw [Lib.nDigits_big h]
        rw [Nat.pow_succ] at hu
        have hk : 1 ≤ k := by
          rcases Nat.eq_zero_or_pos k with rfl | hk
          · simp at hu; omega
          · exact hk
        have := ih (u / 10) (by omega) hk
        omega
  exact hle 20 u (by omega) (by omega)

theorem dec14 {M : Mem} {v : Int} (hv : i64B v = true) : ACalls Tryd.prog M 14 [.int .i64 v] [] (slN 0 (Lib.itoa v).length) [] [txO (Lib.itoa v)] := by
  have hv : -9223372036854775808 ≤ v ∧ v ≤ 9223372036854775807 := of_decide_eq_true hv
  have hu : v.natAbs < 18446744073709551616 := by omega
  refine acalls_of_at Tryd.func14 body14 rfl fun O a w hO hat => ?_
  have hkeep : ∀ (l : List Nat) k, k < O.h.length → l[k]? = some k := fun l k hk => by rw [hO] at hk; exact absurd hk (by simp)
  have start : ∀ (a1 : Go.Act) (w1 : World), AtV M O Tryd.f14.ntmps [0, 3, 4] [.int .i64 v, .int .u64 (v.natAbs : Nat), slN 0 1] [some ⟨[dgI (v.natAbs : Nat)], true, 1, true⟩] [] (fun _ _ => False) a1 w1 →
      wpL Tryd.prog (Done Tryd.prog M O Tryd.f14 0 fun v1 o1 n1 _ => v1 = slN 0 (Lib.itoa v).length ∧ o1 = [] ∧ n1 = [txO (Lib.itoa v)]) [.block 0 (.loop loop14), itemN c14 6, itemN c14 7, itemN c14 8, itemN c14 9] a1 w1 := fun a1 w1 h1 => by
    rw [dgI_eq] at h1
    have hnd := nDigits_le20 hu
    have hnp := Lib.nDigits_pos v.natAbs
    refine wpL_cons (R := fun a' w' => AtV M O Tryd.f14.ntmps [0, 3, 4] [.int .i64 v, .int .u64 0, slN 0 (Lib.decDigits v.natAbs).length] [some (txO (Lib.decDigits v.natAbs))] [] (fun _ _ => False) a' w' ∨ ∃ u : Nat, AtV M O Tryd.f14.ntmps [0, 3, 4] [.int .i64 v, .int .u64 u, slN 0 (Lib.decDigits v.natAbs).length] [some (txO (Lib.decDigits v.natAbs))] [] (fun _ _ => False) a' w')
      (wp_block (wp_loop_idx (I14 M O v v.natAbs) (Lib.nDigits v.natAbs - 1) ⟨v.natAbs, [UInt8.ofNat (48 + v.natAbs % 10)], rfl, hu, rfl, pre10_start _, h1⟩ (fun i a w hi h => ?_) fun a w h => ?_)) fun a2 w2 h2 => ?_
    · obtain ⟨u, l, hd, hul, hl, hp, h⟩ := h
      have hbig : ¬ u < 10 := fun h10 => by rw [Lib.nDigits_small h10] at hd; omega
      rw [Lib.nDigits_big hbig] at hd
      refine wp_items loop14 (wpL_end ?_)
      refine h.items (ovX_ok _ _) nilC mix (fun c _ => hooksOk_nil c) (fun z => e14s M v u l.length (tx l) z) (held_cons (decide_eq_true (by omega)) (held_one (apS_ok rfl (tx_length l) (Nat.le_refl _) (by omega)))) rfl (fun _ a3 w3 h3 => ?_) fun hne => absurd rfl hne
      rw [div10 hul, dgI_eq, tx_take, ← tx_cons] at h3
      have h4 := h3.compact (keep := [1]) (i0 := 0) (V' := [.int .i64 v, .int .u64 (u / 10 : Nat), .slice (some ⟨0, 0, some ((1 + l.length) * 1)⟩) (1 + l.length) (1 + l.length)]) (lo := [txO (UInt8.ofNat (48 + u / 10 % 10) :: l)]) (by kernel_rfl) (hkeep _)
      have e : 1 + l.length = (UInt8.ofNat (48 + u / 10 % 10) :: l).length := by simp; omega
      rw [Nat.mul_one, e] at h4
      exact ⟨rfl, u / 10, _, by omega, by omega, by simp [hl], by rw [pre10_step hbig]; exact hp, h4⟩
    · obtain ⟨u, l, hd, hul, hl, hp, h⟩ := h
      have hsm : u < 10 := by
        apply Classical.byContradiction
        intro hb
        rw [Lib.nDigits_big hb] at hd
        have := Lib.nDigits_pos (u / 10)
        omega
      have hl' : l = Lib.decDigits v.natAbs := by rw [← hp]; unfold pre10; rw [if_pos hsm]; rfl
      refine wp_items loop14 (wpL_end ?_)
      refine h.items (ovX_ok _ _) nilC mix (fun c _ => hooksOk_nil c) (fun z => e14x M v u l.length (tx l) z) (held_one (decide_eq_false (by omega))) rfl (fun he => by cases he) fun _ a3 w3 h3 => ?_
      rw [hl'] at h3
      exact ⟨by simp [AExit.to], rfl, .inr ⟨u, h3⟩⟩
    · have fin : ∃ u : Int, AtV M O Tryd.f14.ntmps [0, 3, 4] [.int .i64 v, .int .u64 u, slN 0 (Lib.decDigits v.natAbs).length] [some (txO (Lib.decDigits v.natAbs))] [] (fun _ _ => False) a2 w2 := by
        rcases h2 with h2 | ⟨u, h2⟩
        · exact ⟨_, h2⟩
        · exact ⟨_, h2⟩
      obtain ⟨u, h2⟩ := fin
      have hlen : (Lib.decDigits v.natAbs).length ≤ 20 := by rw [Lib.decDigits_length]; exact hnd
      show wpL Tryd.prog _ ([itemN c14 6, itemN c14 7, itemN c14 8, itemN c14 9] ++ []) a2 w2
      by_cases hneg : v < 0
      · refine h2.items (ovX_ok _ _) nilC mix (fun c _ => hooksOk_nil c) (fun z => e14y M v u _ _ z) (held_cons (decide_eq_true hneg) (held_one (apS_ok rfl (tx_length _) (Nat.le_refl _) (by omega)))) rfl (fun he => by cases he) fun _ a3 w3 h3 => ?_
        rw [tx_take] at h3
        have e1 : Lib.itoa v = 45 :: Lib.decDigits v.natAbs := by unfold Lib.itoa; rw [if_pos hneg]
        have e2 : Value.int .u8 45 :: tx (Lib.decDigits v.natAbs) = tx (Lib.itoa v) := by rw [e1]; rfl
        have e3 : 1 + (Lib.decDigits v.natAbs).length = (Lib.itoa v).length := by rw [e1]; simp; omega
        rw [e2, Nat.mul_one, e3] at h3
        obtain ⟨z, h3⟩ := h3
        exact ⟨.inr rfl, _, _, _, slN 0 (Lib.itoa v).length, [], [txO (Lib.itoa v)], h3, by kernel_rfl, rfl, rfl, rfl⟩
      · refine h2.items (ovX_ok _ _) nilC mix (fun c _ => hooksOk_nil c) (fun z => e14z M v u _ _ z) (held_one (decide_eq_false hneg)) rfl (fun he => by cases he) fun _ a3 w3 h3 => ?_
        have e1 : Lib.itoa v = Lib.decDigits v.natAbs := by unfold Lib.itoa; rw [if_neg hneg, show v.toNat = v.natAbs by omega]
        rw [← e1] at h3
        obtain ⟨z, h3⟩ := h3
        exact ⟨.inr rfl, _, _, _, slN 0 (Lib.itoa v).length, [], [txO (Lib.itoa v)], h3, by kernel_rfl, rfl, rfl, rfl⟩
  refine wp_items c14 ?_
  rw [items14]
  show wpL Tryd.prog _ ([itemN c14 0, itemN c14 1, itemN c14 2, itemN c14 3, itemN c14 4] ++ [.block 0 (.loop loop14), itemN c14 6, itemN c14 7, itemN c14 8, itemN c14 9]) a w
  by_cases hneg : v < 0
  · refine hat.items (ovX_ok _ _) nilC mix (fun c _ => hooksOk_nil c) (e14n M v) (held_one (decide_eq_true hneg)) rfl (fun _ a1 w1 h1 => ?_) fun hne => absurd rfl hne
    have e : IntKind.u64.wrap (0 - IntKind.u64.wrap v) = (v.natAbs : Nat) := by
      simp only [wrapU]; omega
    rw [e] at h1
    exact start a1 w1 h1
  · refine hat.items (ovX_ok _ _) nilC mix (fun c _ => hooksOk_nil c) (e14p M v) (held_one (decide_eq_false hneg)) rfl (fun _ a1 w1 h1 => ?_) fun hne => absurd rfl hne
    have e : IntKind.u64.wrap v = (v.natAbs : Nat) := by
      simp only [wrapU]; omega
    rw [e] at h1
    exact start a1 w1 h1

def decSum : Sum :=
  { f := 14, ro := true
    S := fun args os => match args, os with
      | [.int .i64 n], [] => some (slN 0 (Lib.itoa n).length, [], [txO (Lib.itoa n)])
      | _, _ => none
    C := fun args os => match args with
      | [.int .i64 n] => [(i64B n, true)]
      | _ => [] }
theorem decSum_sound (M : Mem) : decSum.SoundC Tryd.prog M := by
  refine sumC_sound Tryd.func14 (by kernel_rfl) (by kernel_rfl) fun args os v os' ns hs hp => ?_
  simp only [decSum] at hs hp ⊢
  split at hs
  · rename_i n
    cases hs
    exact ⟨dec14 (hp (i64B n, true) (List.Mem.head _)), fun _ => rfl⟩
  · cases hs
end Go.Proofs.YtfkdcpinajnbfaaDoor
