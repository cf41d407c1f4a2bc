/- The program's hexadecimal text (hexOf), of bytes of memory or of an object: a string.
   Conditions: bytes in range. -/
import Derived.Test.YtfkdcpinajnbfaaDoorSpec
open Go.Ab Go.Num
set_option linter.unusedVariables false
set_option linter.unusedSimpArgs false
namespace Go.Proofs.YtfkdcpinajnbfaaDoor
set_option maxRecDepth 100000
noncomputable def c21 : Code := Tryd.f21.body.getD .skip
noncomputable def loop21 : Code := loopOf 0 c21
theorem body21 : Tryd.f21.body = some c21 := by kernel_rfl
theorem items21 : items c21 = [itemN c21 0, itemN c21 1, itemN c21 2, .block 0 (.loop loop21), itemN c21 4, itemN c21 5] := by kernel_rfl
abbrev live21 : List Nat := [3, 6, 7, 8]
abbrev vs21 (t s : Value) (n : Nat) (k : Int) : List Value := [t, s, .int .i64 n, .int .i64 k]
def hy1 (x : Int) : Value := .int .u8 (byteAt ⟨hexS.toArray⟩ (x.fdiv (2 ^ min (Int.toNat 4) IntKind.u8.bits)).toNat)
def hyN (x : Int) : Int := IntKind.u8.wrap ((BitVec.ofInt IntKind.u8.bits x &&& BitVec.ofInt IntKind.u8.bits 15).toNat : Int)
def hy2 (x : Int) : Value := .int .u8 (byteAt ⟨hexS.toArray⟩ (hyN x).toNat)
def hyP (x : Int) : Pins := [(inB (x.fdiv (2 ^ min (Int.toNat 4) IntKind.u8.bits)) 16, true), (inB (hyN x) 16, true)]
theorem hy_nums {x : Int} (h : 0 ≤ x ∧ x < 256) : x.fdiv (2 ^ min (Int.toNat 4) IntKind.u8.bits) = x / 16 ∧ hyN x = x % 16 := by
  obtain ⟨n, rfl⟩ : ∃ n : Fin 256, x = (n.val : Int) := ⟨⟨x.toNat, by omega⟩, by simp; omega⟩
  exact (show ∀ n : Fin 256, ((n.val : Nat) : Int).fdiv (2 ^ min (Int.toNat 4) IntKind.u8.bits) = ((n.val : Nat) : Int) / 16 ∧ hyN ((n.val : Nat) : Int) = ((n.val : Nat) : Int) % 16 by decide +kernel) n
theorem hy12 {x : Int} (h : 0 ≤ x ∧ x < 256) : [hy1 x, hy2 x] = tx (hex2 x) := by
  obtain ⟨e1, e2⟩ := hy_nums h
  simp only [hy1, hy2, e1, e2, hex2, tx, List.map_cons, List.map_nil]
  rfl
theorem hyP_held {x : Int} (h : 0 ≤ x ∧ x < 256) : Held (hyP x) := by
  obtain ⟨e1, e2⟩ := hy_nums h
  exact held_cons (by rw [e1]; simp [inB]; omega) (held_one (by rw [e2]; simp [inB]; omega))
def strV (us : List Value) : Value := .string ⟨((us.map vint).map fun n => UInt8.ofNat n.toNat).toArray⟩
theorem strV_tx (l : List UInt8) : strV (tx l) = strOf l := by
  have : ((tx l).map vint).map (fun n => UInt8.ofNat n.toNat) = l := by
    simp only [tx, List.map_map]
    conv => rhs; rw [← List.map_id l]
    refine List.map_congr_left fun b _ => ?_
    simp [vint]
  unfold strV strOf
  rw [this]
def strP (X : List Value) (h : Nat) : Bool := (((X.drop 0).take (h * 1)).all (isI .u8) && (decide (X.length = h) && (decide (0 + h * 1 ≤ h) && decide (h ≤ h))))
theorem strP_ok (l : List UInt8) : strP (tx l) l.length = true := by
  have : (tx l).all (isI .u8) = true := List.all_eq_true.2 fun v hv => by
    simp only [tx, List.mem_map] at hv
    obtain ⟨b, _, rfl⟩ := hv
    rfl
  unfold strP
  rw [tx_take, this]
  simp [tx_length]

section
variable (M : Mem) (b off n c h : Nat) (k : Int) (X : List Value) (z : Nat → Value)
theorem e21r : viewU live21 (evL Tryd.prog M (ovN Tryd.prog M) [] [] [] [] 200 [itemN c21 0, itemN c21 1, itemN c21 2] ⟨[roS b off n c] ++ List.replicate (Tryd.f21.ntmps - 1) undef, []⟩ [])
   = some (.normal, vs21 (.slice none 0 0) (roS b off n c) n 0, [], Tryd.f21.ntmps, []) := by kernel_rfl
theorem e21r0 (x : Int) (hx : vint ((M b (off + k.toNat * 1)).getD undef) = x) : viewU live21 (evL Tryd.prog M (ovN Tryd.prog M) [10, 11, 15, 18] [] [] [9] 200 (items loop21) ⟨mkT Tryd.f21.ntmps live21 (vs21 (.slice none 0 0) (roS b off n c) n k) z, []⟩ [true])
   = some (.normal, vs21 (slN 1 2) (roS b off n c) n (IntKind.wrap .i64 (k + 1)), [some ⟨[hy1 x, hy2 x], true, 1, true⟩, some ⟨[hy1 x, hy2 x], true, 1, true⟩], Tryd.f21.ntmps, [(decide (k < (n : Int)), true), (inB k n, true), (roB .u8 M b (off + k.toNat * 1), true)] ++ hyP x) := by subst hx; kernel_rfl
theorem e21rs (x : Int) (hx : vint ((M b (off + k.toNat * 1)).getD undef) = x) : viewU live21 (evL Tryd.prog M (ovN Tryd.prog M) [10, 11, 15, 18, 20] [] [] [9] 200 (items loop21) ⟨mkT Tryd.f21.ntmps live21 (vs21 (slN 0 h) (roS b off n c) n k) z, [some ⟨X, true, 1, true⟩]⟩ [true])
   = some (.normal, vs21 (.slice (some ⟨0, 0, some ((h + 2) * 1)⟩) (h + 2) (h + 2)) (roS b off n c) n (IntKind.wrap .i64 (k + 1)), [some ⟨X.take (h * 1) ++ [hy1 x, hy2 x], true, 1, true⟩, some ⟨[hy1 x, hy2 x], true, 1, true⟩], Tryd.f21.ntmps,
     [(decide (k < (n : Int)), true), (inB k n, true), (roB .u8 M b (off + k.toNat * 1), true)] ++ hyP x ++ [(apS X h [hy1 x, hy2 x] 2 2, true)]) := by subst hx; kernel_rfl
theorem e21rx : viewU [3] (evL Tryd.prog M (ovN Tryd.prog M) [] [] [] [9] 200 (items loop21) ⟨mkT Tryd.f21.ntmps live21 (vs21 (slN 0 h) (roS b off n c) n k) z, [some ⟨X, true, 1, true⟩]⟩ [false])
   = some (.exit 0, [slN 0 h], [some ⟨X, true, 1, true⟩], Tryd.f21.ntmps, [(decide (k < (n : Int)), false)]) := by kernel_rfl
theorem e21ry : viewU [3] (evL Tryd.prog M (ovN Tryd.prog M) [] [] [] [9] 200 (items loop21) ⟨mkT Tryd.f21.ntmps live21 (vs21 (.slice none 0 0) (roS b off n c) n k) z, []⟩ [false])
   = some (.exit 0, [.slice none 0 0], [], Tryd.f21.ntmps, [(decide (k < (n : Int)), false)]) := by kernel_rfl
theorem e21re : viewU [2] (evL Tryd.prog M (ovN Tryd.prog M) [23] [] [] [] 200 [itemN c21 4, itemN c21 5] ⟨mkT Tryd.f21.ntmps [3] [slN 0 h] z, [some ⟨X, true, 1, true⟩]⟩ [])
   = some (.ret, [strV ((X.drop 0).take (h * 1))], [some ⟨X, true, 1, true⟩], Tryd.f21.ntmps, [(strP X h, true)]) := by kernel_rfl
theorem e21rz : viewU [2] (evL Tryd.prog M (ovN Tryd.prog M) [] [] [] [] 200 [itemN c21 4, itemN c21 5] ⟨mkT Tryd.f21.ntmps [3] [.slice none 0 0] z, []⟩ [])
   = some (.ret, [strOf []], [], Tryd.f21.ntmps, []) := by kernel_rfl
end

theorem hexor {M : Mem} {b off n c : Nat} (hn : n ≤ 1048576) (hro : ∀ i, i < n → roB .u8 M b (off + i) = true) (hx : inR n (roN M b off) = true) :
    ACalls Tryd.prog M 21 [roS b off n c] [] (strOf (hexT n (roN M b off))) [] [] := by
  refine acalls_of_at Tryd.func21 body21 rfl fun O a w hO hat => ?_
  have hkeep : ∀ k, k < O.h.length → ([0] : List Nat)[k]? = some k := fun k hk => by
    rw [hO] at hk
    exact absurd hk (by simp)
  have hkeep0 : ∀ k, k < O.h.length → ([1] : List Nat)[k]? = some k := fun k hk => by
    rw [hO] at hk
    exact absurd hk (by simp)
  refine wp_items c21 ?_
  rw [items21]
  show wpL Tryd.prog _ ([itemN c21 0, itemN c21 1, itemN c21 2] ++ [.block 0 (.loop loop21), itemN c21 4, itemN c21 5]) a w
  refine hat.items (ovI_ok _ _ _ _ _) nilC mix (fun c _ => hooksOk_nil c) (e21r M b off n c) (fun x hx => by cases hx) rfl (fun _ a1 w1 h1 => ?_) fun hne => absurd rfl hne
  by_cases h0 : n = 0
  · subst h0
    refine wpL_cons (R := fun a' w' => AtV M O Tryd.f21.ntmps [3] [.slice none 0 0] [] [] (fun _ _ => False) a' w')
      (wp_block (wp_loop_idx (fun i a' w' => AtV M O Tryd.f21.ntmps live21 (vs21 (.slice none 0 0) (roS b off 0 c) 0 0) [] [] (fun _ _ => False) a' w') 0 h1 (fun i a w hi h => absurd hi (by omega)) fun a w h => ?_)) fun a2 w2 h2 => ?_
    · refine wp_items loop21 (wpL_end ?_)
      refine h.items (ovI_ok _ _ _ _ _) nilC mix (fun c _ => hooksOk_nil c) (fun z => e21ry M b off 0 c 0 z) (held_one rfl) rfl (fun he => by cases he) fun _ a3 w3 h3 => ?_
      exact ⟨by simp [AExit.to], rfl, h3⟩
    · show wpL Tryd.prog _ ([itemN c21 4, itemN c21 5] ++ []) a2 w2
      refine h2.items (ovI_ok _ _ _ _ _) nilC mix (fun c _ => hooksOk_nil c) (fun z => e21rz M z) (fun x hx => by cases hx) rfl (fun he => by cases he) fun _ a3 w3 h3 => ?_
      obtain ⟨z, h3⟩ := h3
      exact ⟨.inr rfl, _, _, _, strOf [], [], [], h3, by kernel_rfl, rfl, rfl, rfl⟩
  refine wpL_cons (R := fun a' w' => AtV M O Tryd.f21.ntmps [3] [slN 0 (hexT n (roN M b off)).length] [some (txO (hexT n (roN M b off)))] [] (fun _ _ => False) a' w')
    (wp_block (wp_loop_idx (fun i a' w' => (i = 0 ∧ AtV M O Tryd.f21.ntmps live21 (vs21 (.slice none 0 0) (roS b off n c) n 0) [] [] (fun _ _ => False) a' w') ∨ (0 < i ∧ AtV M O Tryd.f21.ntmps live21 (vs21 (slN 0 (hexT i (roN M b off)).length) (roS b off n c) n i) [some (txO (hexT i (roN M b off)))] [] (fun _ _ => False) a' w')) n (.inl ⟨rfl, h1⟩) (fun i a w hi h => ?_) fun a w h => ?_)) fun a2 w2 h2 => ?_
  · refine wp_items loop21 (wpL_end ?_)
    have hl := hexT_length (roN M b off) i
    rcases h with ⟨rfl, h⟩ | ⟨hi0, h⟩
    · refine h.items (ovI_ok _ _ _ _ _) nilC mix (fun c _ => hooksOk_nil c) (fun z => e21r0 M b off n c (0 : Nat) z _ rfl) ?_ rfl (fun _ a3 w3 h3 => ?_) fun hne => absurd rfl hne
      · rw [show vint ((M b (off + ((0 : Nat) : Int).toNat * 1)).getD undef) = roN M b off 0 by rw [Int.toNat_natCast, Nat.mul_one]; rfl, Int.toNat_natCast, Nat.mul_one]
        exact held_cons (decide_eq_true (by omega)) (held_cons (by simp [inB]; omega) (held_cons (hro 0 hi) (hyP_held (inR_at hx hi))))
      · rw [show vint ((M b (off + ((0 : Nat) : Int).toNat * 1)).getD undef) = roN M b off 0 by rw [Int.toNat_natCast, Nat.mul_one]; rfl, nextC hi hn, hy12 (inR_at hx hi)] at h3
        exact ⟨rfl, .inr ⟨by omega, h3.compact (keep := [1]) (i0 := 0) (V' := vs21 (slN 0 (hexT (0 + 1) (roN M b off)).length) (roS b off n c) n ((0 + 1 : Nat) : Int)) (lo := [txO (hexT (0 + 1) (roN M b off))]) (compact_of (objs := [txO (hexT (0 + 1) (roN M b off))]) (o := txO (hexT (0 + 1) (roN M b off))) rfl rfl (by kernel_rfl) (by kernel_rfl) rfl (by rw [tx_length, hexT_length]; omega)) hkeep0⟩⟩
    · refine h.items (ovI_ok _ _ _ _ _) nilC mix (fun c _ => hooksOk_nil c) (fun z => e21rs M b off n c (hexT i (roN M b off)).length i (tx (hexT i (roN M b off))) z _ rfl) ?_ rfl (fun _ a3 w3 h3 => ?_) fun hne => absurd rfl hne
      · rw [show vint ((M b (off + (i : Int).toNat * 1)).getD undef) = roN M b off i by rw [Int.toNat_natCast, Nat.mul_one]; rfl, Int.toNat_natCast, Nat.mul_one]
        exact held_two (held_cons (decide_eq_true (by omega)) (held_cons (by simp [inB]; omega) (held_cons (hro i hi) (hyP_held (inR_at hx hi))))) (held_one (apS_ok (tx_length _) rfl (Nat.le_refl _) (by omega)))
      · rw [show vint ((M b (off + (i : Int).toNat * 1)).getD undef) = roN M b off i by rw [Int.toNat_natCast, Nat.mul_one]; rfl, nextC hi hn, tx_take0, hy12 (inR_at hx hi), hexT_snoc, Nat.mul_one, show (hexT i (roN M b off)).length + 2 = (hexT (i + 1) (roN M b off)).length by rw [hexT_length, hexT_length]; omega] at h3
        exact ⟨rfl, .inr ⟨by omega, h3.compact (keep := [0]) (i0 := 0) (V' := vs21 (slN 0 (hexT (i + 1) (roN M b off)).length) (roS b off n c) n ((i + 1 : Nat) : Int)) (lo := [txO (hexT (i + 1) (roN M b off))]) (compact_of (objs := [txO (hexT (i + 1) (roN M b off))]) (o := txO (hexT (i + 1) (roN M b off))) rfl rfl (by kernel_rfl) (by kernel_rfl) rfl (by rw [tx_length, hexT_length]; omega)) hkeep⟩⟩
  · refine wp_items loop21 (wpL_end ?_)
    rcases h with ⟨h, _⟩ | ⟨_, h⟩
    · exact absurd h h0
    refine h.items (ovI_ok _ _ _ _ _) nilC mix (fun c _ => hooksOk_nil c) (fun z => e21rx M b off n c _ n _ z) (held_one (decide_eq_false (by omega))) rfl (fun he => by cases he) fun _ a3 w3 h3 => ?_
    exact ⟨by simp [AExit.to], rfl, h3⟩
  · show wpL Tryd.prog _ ([itemN c21 4, itemN c21 5] ++ []) a2 w2
    refine h2.items (ovI_ok _ _ _ _ _) nilC mix (fun c _ => hooksOk_nil c) (fun z => e21re M _ _ z) (held_one (strP_ok _)) rfl (fun he => by cases he) fun _ a3 w3 h3 => ?_
    rw [tx_take, strV_tx] at h3
    obtain ⟨z, h3⟩ := h3
    exact ⟨.inr rfl, _, _, _, strOf (hexT n (roN M b off)), [], [], h3, by kernel_rfl, rfl, rfl, rfl⟩

section
variable (M : Mem) (f s n c h : Nat) (k : Int) (X : List Value) (z : Nat → Value) (A : List Value) (g : Bool) (e : Nat)
theorem e21o : viewU live21 (evL Tryd.prog M (ovN Tryd.prog M) [] [] [] [] 200 [itemN c21 0, itemN c21 1, itemN c21 2] ⟨[obS f s n c] ++ List.replicate (Tryd.f21.ntmps - 1) undef, [some ⟨A, g, e, true⟩]⟩ [])
   = some (.normal, vs21 (.slice none 0 0) (obS f s n c) n 0, [some ⟨A, g, e, true⟩], Tryd.f21.ntmps, []) := by kernel_rfl
theorem e21o0 (x : Int) (hx : vint (atC A (f + k.toNat * 1)) = x) : viewU live21 (evL Tryd.prog M (ovN Tryd.prog M) [10, 11, 15, 18] [] [] [9] 200 (items loop21) ⟨mkT Tryd.f21.ntmps live21 (vs21 (.slice none 0 0) (obS f s n c) n k) z, [some ⟨A, g, e, true⟩]⟩ [true])
   = some (.normal, vs21 (slN 2 2) (obS f s n c) n (IntKind.wrap .i64 (k + 1)), [some ⟨A, g, e, true⟩, some ⟨[hy1 x, hy2 x], true, 1, true⟩, some ⟨[hy1 x, hy2 x], true, 1, true⟩], Tryd.f21.ntmps, [(decide (k < (n : Int)), true), (inB k n, true), (ldB .u8 ⟨A, g, e, true⟩ s (f + k.toNat * 1), true)] ++ hyP x) := by subst hx; kernel_rfl
theorem e21os (x : Int) (hx : vint (atC A (f + k.toNat * 1)) = x) : viewU live21 (evL Tryd.prog M (ovN Tryd.prog M) [10, 11, 15, 18, 20] [] [] [9] 200 (items loop21) ⟨mkT Tryd.f21.ntmps live21 (vs21 (slN 1 h) (obS f s n c) n k) z, [some ⟨A, g, e, true⟩, some ⟨X, true, 1, true⟩]⟩ [true])
   = some (.normal, vs21 (.slice (some ⟨1, 0, some ((h + 2) * 1)⟩) (h + 2) (h + 2)) (obS f s n c) n (IntKind.wrap .i64 (k + 1)), [some ⟨A, g, e, true⟩, some ⟨X.take (h * 1) ++ [hy1 x, hy2 x], true, 1, true⟩, some ⟨[hy1 x, hy2 x], true, 1, true⟩], Tryd.f21.ntmps,
     [(decide (k < (n : Int)), true), (inB k n, true), (ldB .u8 ⟨A, g, e, true⟩ s (f + k.toNat * 1), true)] ++ hyP x ++ [(apS X h [hy1 x, hy2 x] 2 2, true)]) := by subst hx; kernel_rfl
theorem e21ox : viewU [3] (evL Tryd.prog M (ovN Tryd.prog M) [] [] [] [9] 200 (items loop21) ⟨mkT Tryd.f21.ntmps live21 (vs21 (slN 1 h) (obS f s n c) n k) z, [some ⟨A, g, e, true⟩, some ⟨X, true, 1, true⟩]⟩ [false])
   = some (.exit 0, [slN 1 h], [some ⟨A, g, e, true⟩, some ⟨X, true, 1, true⟩], Tryd.f21.ntmps, [(decide (k < (n : Int)), false)]) := by kernel_rfl
theorem e21oy : viewU [3] (evL Tryd.prog M (ovN Tryd.prog M) [] [] [] [9] 200 (items loop21) ⟨mkT Tryd.f21.ntmps live21 (vs21 (.slice none 0 0) (obS f s n c) n k) z, [some ⟨A, g, e, true⟩]⟩ [false])
   = some (.exit 0, [.slice none 0 0], [some ⟨A, g, e, true⟩], Tryd.f21.ntmps, [(decide (k < (n : Int)), false)]) := by kernel_rfl
theorem e21oe : viewU [2] (evL Tryd.prog M (ovN Tryd.prog M) [23] [] [] [] 200 [itemN c21 4, itemN c21 5] ⟨mkT Tryd.f21.ntmps [3] [slN 1 h] z, [some ⟨A, g, e, true⟩, some ⟨X, true, 1, true⟩]⟩ [])
   = some (.ret, [strV ((X.drop 0).take (h * 1))], [some ⟨A, g, e, true⟩, some ⟨X, true, 1, true⟩], Tryd.f21.ntmps, [(strP X h, true)]) := by kernel_rfl
theorem e21oz : viewU [2] (evL Tryd.prog M (ovN Tryd.prog M) [] [] [] [] 200 [itemN c21 4, itemN c21 5] ⟨mkT Tryd.f21.ntmps [3] [.slice none 0 0] z, [some ⟨A, g, e, true⟩]⟩ [])
   = some (.ret, [strOf []], [some ⟨A, g, e, true⟩], Tryd.f21.ntmps, []) := by kernel_rfl
end

theorem hexoo {M : Mem} {f s n c : Nat} {A : List Value} {g : Bool} {e : Nat} (hn : n ≤ 1048576) (hro : ∀ i, i < n → ldB .u8 ⟨A, g, e, true⟩ s (f + i) = true) (hx : inR n (fun i => wd A (f + i)) = true) :
    ACalls Tryd.prog M 21 [obS f s n c] [⟨A, g, e, true⟩] (strOf (hexT n (fun i => wd A (f + i)))) [⟨A, g, e, true⟩] [] := by
  refine acalls_of_at Tryd.func21 body21 rfl fun O a w hO hat => ?_
  have hkeep : ∀ k, k < O.h.length → ([0, 1] : List Nat)[k]? = some k := fun k hk => by
    rw [hO] at hk
    have hk : k < 1 := by simpa using hk
    have : k = 0 := by omega
    subst this
    rfl
  have hkeep0 : ∀ k, k < O.h.length → ([0, 2] : List Nat)[k]? = some k := fun k hk => by
    rw [hO] at hk
    have hk : k < 1 := by simpa using hk
    have : k = 0 := by omega
    subst this
    rfl
  refine wp_items c21 ?_
  rw [items21]
  show wpL Tryd.prog _ ([itemN c21 0, itemN c21 1, itemN c21 2] ++ [.block 0 (.loop loop21), itemN c21 4, itemN c21 5]) a w
  refine hat.items (ovI_ok _ _ _ _ _) nilC mix (fun c _ => hooksOk_nil c) (e21o M f s n c A g e) (fun x hx => by cases hx) rfl (fun _ a1 w1 h1 => ?_) fun hne => absurd rfl hne
  by_cases h0 : n = 0
  · subst h0
    refine wpL_cons (R := fun a' w' => AtV M O Tryd.f21.ntmps [3] [.slice none 0 0] [some ⟨A, g, e, true⟩] [] (fun _ _ => False) a' w')
      (wp_block (wp_loop_idx (fun i a' w' => AtV M O Tryd.f21.ntmps live21 (vs21 (.slice none 0 0) (obS f s 0 c) 0 0) [some ⟨A, g, e, true⟩] [] (fun _ _ => False) a' w') 0 h1 (fun i a w hi h => absurd hi (by omega)) fun a w h => ?_)) fun a2 w2 h2 => ?_
    · refine wp_items loop21 (wpL_end ?_)
      refine h.items (ovI_ok _ _ _ _ _) nilC mix (fun c _ => hooksOk_nil c) (fun z => e21oy M f s 0 c 0 z A g e) (held_one rfl) rfl (fun he => by cases he) fun _ a3 w3 h3 => ?_
      exact ⟨by simp [AExit.to], rfl, h3⟩
    · show wpL Tryd.prog _ ([itemN c21 4, itemN c21 5] ++ []) a2 w2
      refine h2.items (ovI_ok _ _ _ _ _) nilC mix (fun c _ => hooksOk_nil c) (fun z => e21oz M z A g e) (fun x hx => by cases hx) rfl (fun he => by cases he) fun _ a3 w3 h3 => ?_
      obtain ⟨z, h3⟩ := h3
      exact ⟨.inr rfl, _, _, _, strOf [], [⟨A, g, e, true⟩], [], h3, by kernel_rfl, rfl, rfl, rfl⟩
  refine wpL_cons (R := fun a' w' => AtV M O Tryd.f21.ntmps [3] [slN 1 (hexT n (fun i => wd A (f + i))).length] [some ⟨A, g, e, true⟩, some (txO (hexT n (fun i => wd A (f + i))))] [] (fun _ _ => False) a' w')
    (wp_block (wp_loop_idx (fun i a' w' => (i = 0 ∧ AtV M O Tryd.f21.ntmps live21 (vs21 (.slice none 0 0) (obS f s n c) n 0) [some ⟨A, g, e, true⟩] [] (fun _ _ => False) a' w') ∨ (0 < i ∧ AtV M O Tryd.f21.ntmps live21 (vs21 (slN 1 (hexT i (fun i => wd A (f + i))).length) (obS f s n c) n i) [some ⟨A, g, e, true⟩, some (txO (hexT i (fun i => wd A (f + i))))] [] (fun _ _ => False) a' w')) n (.inl ⟨rfl, h1⟩) (fun i a w hi h => ?_) fun a w h => ?_)) fun a2 w2 h2 => ?_
  · refine wp_items loop21 (wpL_end ?_)
    have hl := hexT_length (fun i => wd A (f + i)) i
    rcases h with ⟨rfl, h⟩ | ⟨hi0, h⟩
    · refine h.items (ovI_ok _ _ _ _ _) nilC mix (fun c _ => hooksOk_nil c) (fun z => e21o0 M f s n c (0 : Nat) z A g e _ rfl) ?_ rfl (fun _ a3 w3 h3 => ?_) fun hne => absurd rfl hne
      · rw [show vint (atC A (f + ((0 : Nat) : Int).toNat * 1)) = wd A (f + 0) by rw [Int.toNat_natCast, Nat.mul_one]; rfl, Int.toNat_natCast, Nat.mul_one]
        exact held_cons (decide_eq_true (by omega)) (held_cons (by simp [inB]; omega) (held_cons (hro 0 hi) (hyP_held (inR_at hx hi))))
      · rw [show vint (atC A (f + ((0 : Nat) : Int).toNat * 1)) = wd A (f + 0) by rw [Int.toNat_natCast, Nat.mul_one]; rfl, nextC hi hn, hy12 (inR_at hx hi)] at h3
        exact ⟨rfl, .inr ⟨by omega, h3.compact (keep := [0, 2]) (i0 := 1) (V' := vs21 (slN 1 (hexT (0 + 1) (fun i => wd A (f + i))).length) (obS f s n c) n ((0 + 1 : Nat) : Int)) (lo := [⟨A, g, e, true⟩, txO (hexT (0 + 1) (fun i => wd A (f + i)))]) (compact_of (objs := [⟨A, g, e, true⟩, txO (hexT (0 + 1) (fun i => wd A (f + i)))]) (o := txO (hexT (0 + 1) (fun i => wd A (f + i)))) rfl rfl (by kernel_rfl) (by kernel_rfl) rfl (by rw [tx_length, hexT_length]; omega)) hkeep0⟩⟩
    · refine h.items (ovI_ok _ _ _ _ _) nilC mix (fun c _ => hooksOk_nil c) (fun z => e21os M f s n c (hexT i (fun i => wd A (f + i))).length i (tx (hexT i (fun i => wd A (f + i)))) z A g e _ rfl) ?_ rfl (fun _ a3 w3 h3 => ?_) fun hne => absurd rfl hne
      · rw [show vint (atC A (f + (i : Int).toNat * 1)) = wd A (f + i) by rw [Int.toNat_natCast, Nat.mul_one]; rfl, Int.toNat_natCast, Nat.mul_one]
        exact held_two (held_cons (decide_eq_true (by omega)) (held_cons (by simp [inB]; omega) (held_cons (hro i hi) (hyP_held (inR_at hx hi))))) (held_one (apS_ok (tx_length _) rfl (Nat.le_refl _) (by omega)))
      · rw [show vint (atC A (f + (i : Int).toNat * 1)) = wd A (f + i) by rw [Int.toNat_natCast, Nat.mul_one]; rfl, nextC hi hn, tx_take0, hy12 (inR_at hx hi), hexT_snoc, Nat.mul_one, show (hexT i (fun i => wd A (f + i))).length + 2 = (hexT (i + 1) (fun i => wd A (f + i))).length by rw [hexT_length, hexT_length]; omega] at h3
        exact ⟨rfl, .inr ⟨by omega, h3.compact (keep := [0, 1]) (i0 := 1) (V' := vs21 (slN 1 (hexT (i + 1) (fun i => wd A (f + i))).length) (obS f s n c) n ((i + 1 : Nat) : Int)) (lo := [⟨A, g, e, true⟩, txO (hexT (i + 1) (fun i => wd A (f + i)))]) (compact_of (objs := [⟨A, g, e, true⟩, txO (hexT (i + 1) (fun i => wd A (f + i)))]) (o := txO (hexT (i + 1) (fun i => wd A (f + i)))) rfl rfl (by kernel_rfl) (by kernel_rfl) rfl (by rw [tx_length, hexT_length]; omega)) hkeep⟩⟩
  · refine wp_items loop21 (wpL_end ?_)
    rcases h with ⟨h, _⟩ | ⟨_, h⟩
    · exact absurd h h0
    refine h.items (ovI_ok _ _ _ _ _) nilC mix (fun c _ => hooksOk_nil c) (fun z => e21ox M f s n c _ n _ z A g e) (held_one (decide_eq_false (by omega))) rfl (fun he => by cases he) fun _ a3 w3 h3 => ?_
    exact ⟨by simp [AExit.to], rfl, h3⟩
  · show wpL Tryd.prog _ ([itemN c21 4, itemN c21 5] ++ []) a2 w2
    refine h2.items (ovI_ok _ _ _ _ _) nilC mix (fun c _ => hooksOk_nil c) (fun z => e21oe M _ _ z A g e) (held_one (strP_ok _)) rfl (fun he => by cases he) fun _ a3 w3 h3 => ?_
    rw [tx_take, strV_tx] at h3
    obtain ⟨z, h3⟩ := h3
    exact ⟨.inr rfl, _, _, _, strOf (hexT n (fun i => wd A (f + i))), [⟨A, g, e, true⟩], [], h3, by kernel_rfl, rfl, rfl, rfl⟩

def hexoSum (M : Mem) : Sum :=
  { f := 21, ro := true
    S := fun args os => match args, os with
      | [.slice (some ⟨b, off, none⟩) n c], [] => some (strOf (hexT n (roN M b off)), [], [])
      | [.slice (some ⟨0, f, some s⟩) n c], [⟨A, g, e, true⟩] => some (strOf (hexT n (fun i => wd A (f + i))), [⟨A, g, e, true⟩], [])
      | _, _ => none
    C := fun args os => match args, os with
      | [.slice (some ⟨b, off, none⟩) n c], [] => [(hexRoB M b off n, true)]
      | [.slice (some ⟨0, f, some s⟩) n c], [⟨A, g, e, _⟩] => [(hexObB A g e s f n, true)]
      | _, _ => [] }
theorem hexoSum_sound (M : Mem) : (hexoSum M).SoundC Tryd.prog M := by
  refine sumC_sound Tryd.func21 (by kernel_rfl) (by kernel_rfl) fun args os v os' ns hs hp => ?_
  simp only [hexoSum] at hs hp ⊢
  split at hs
  · rename_i b off n c
    cases hs
    have h := hp (hexRoB M b off n, true) (List.Mem.head _)
    simp only [hexRoB, Bool.and_eq_true, decide_eq_true_eq, List.all_eq_true, List.mem_range] at h
    exact ⟨hexor h.1 h.2.1 h.2.2, fun _ => rfl⟩
  · rename_i f s n c A g e
    cases hs
    have h := hp (hexObB A g e s f n, true) (List.Mem.head _)
    simp only [hexObB, Bool.and_eq_true, decide_eq_true_eq, List.all_eq_true, List.mem_range] at h
    exact ⟨hexoo h.1 h.2.1 h.2.2, fun _ => rfl⟩
  · cases hs
end Go.Proofs.YtfkdcpinajnbfaaDoor

