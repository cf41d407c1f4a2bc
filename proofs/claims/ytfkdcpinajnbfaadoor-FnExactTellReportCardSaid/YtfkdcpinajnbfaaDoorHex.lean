/- The reference's hexadecimal text (l8Hex), of bytes of memory or of an object.
   Conditions: bytes in range. -/
import Derived.Test.YtfkdcpinajnbfaaDoorDec
import Derived.Test.YtfkdcpinajnbfaaDoorAbD
open Go.Ab Go.Num
set_option linter.unusedVariables false
set_option linter.unusedSimpArgs false
namespace Go.Proofs.YtfkdcpinajnbfaaDoor
set_option maxRecDepth 100000
noncomputable abbrev ovN (P : Go.Program) (M : Mem) : Ov := ovI 1000000 [] (fun _ => none) P M
noncomputable def c16 : Code := Tryd.f16.body.getD .skip
noncomputable def loop16 : Code := loopOf 0 c16
theorem body16 : Tryd.f16.body = some c16 := by kernel_rfl
theorem items16 : items c16 = [itemN c16 0, itemN c16 1, itemN c16 2, itemN c16 3, .block 0 (.loop loop16), itemN c16 5, itemN c16 6] := by kernel_rfl
abbrev live16 : List Nat := [3, 4, 8, 9, 10]
def hexS : List UInt8 := [48, 49, 50, 51, 52, 53, 54, 55, 56, 57, 97, 98, 99, 100, 101, 102]
abbrev vs16 (j h n : Nat) (s : Value) (k : Int) : List Value := [strOf hexS, slN j h, s, .int .i64 n, .int .i64 k]
abbrev roS (b off n c : Nat) : Value := .slice (some ⟨b, off, none⟩) n c
abbrev obS (f s n c : Nat) : Value := .slice (some ⟨0, f, some s⟩) n c
def hx1 (x : Int) : Value := .int .u8 (byteAt ⟨hexS.toArray⟩ (IntKind.u8.wrap (x.tdiv 16)).toNat)
def hx2 (x : Int) : Value := .int .u8 (byteAt ⟨hexS.toArray⟩ (x.tmod 16).toNat)
def hxP (x : Int) : Pins := [(inB (IntKind.u8.wrap (x.tdiv 16)) 16, true), (inB (x.tmod 16) 16, true)]
section
variable (M : Mem) (b off n c h f s : Nat) (k : Int) (X : List Value) (z : Nat → Value) (A : List Value) (g fl : Bool) (e : Nat)
theorem e16r : viewU live16 (evL Tryd.prog M (ovN Tryd.prog M) [] [] [] [] 200 [itemN c16 0, itemN c16 1, itemN c16 2, itemN c16 3] ⟨[roS b off n c] ++ List.replicate (Tryd.f16.ntmps - 1) undef, []⟩ [])
   = some (.normal, vs16 0 0 n (roS b off n c) 0, [some ⟨[], true, 1, true⟩], Tryd.f16.ntmps, []) := by kernel_rfl
theorem e16rs (x : Int) (hx : vint ((M b (off + k.toNat * 1)).getD undef) = x) : viewU live16 (evL Tryd.prog M (ovN Tryd.prog M) [12, 13, 18, 22, 24] [] [] [11] 200 (items loop16) ⟨mkT Tryd.f16.ntmps live16 (vs16 0 h n (roS b off n c) k) z, [some ⟨X, true, 1, true⟩]⟩ [true])
   = some (.normal, [strOf hexS, .slice (some ⟨0, 0, some ((h + 2) * 1)⟩) (h + 2) (h + 2), roS b off n c, .int .i64 n, .int .i64 (IntKind.wrap .i64 (k + 1))], [some ⟨X.take (h * 1) ++ [hx1 x, hx2 x], true, 1, true⟩, some ⟨[hx1 x, hx2 x], true, 1, true⟩], Tryd.f16.ntmps,
     [(decide (k < (n : Int)), true), (inB k n, true), (roB .u8 M b (off + k.toNat * 1), true)] ++ hxP x ++ [(apS X h [hx1 x, hx2 x] 2 2, true)]) := by subst hx; kernel_rfl
theorem e16rx : viewU [4] (evL Tryd.prog M (ovN Tryd.prog M) [] [] [] [11] 200 (items loop16) ⟨mkT Tryd.f16.ntmps live16 (vs16 0 h n (roS b off n c) k) z, [some ⟨X, true, 1, true⟩]⟩ [false])
   = some (.exit 0, [slN 0 h], [some ⟨X, true, 1, true⟩], Tryd.f16.ntmps, [(decide (k < (n : Int)), false)]) := by kernel_rfl
theorem e16re : viewU [2] (evL Tryd.prog M (ovN Tryd.prog M) [] [] [] [] 200 [itemN c16 5, itemN c16 6] ⟨mkT Tryd.f16.ntmps [4] [slN 0 h] z, [some ⟨X, true, 1, true⟩]⟩ [])
   = some (.ret, [slN 0 h], [some ⟨X, true, 1, true⟩], Tryd.f16.ntmps, []) := by kernel_rfl
theorem e16o : viewU live16 (evL Tryd.prog M (ovN Tryd.prog M) [] [] [] [] 200 [itemN c16 0, itemN c16 1, itemN c16 2, itemN c16 3] ⟨[obS f s n c] ++ List.replicate (Tryd.f16.ntmps - 1) undef, [some ⟨A, g, e, fl⟩]⟩ [])
   = some (.normal, vs16 1 0 n (obS f s n c) 0, [some ⟨A, g, e, fl⟩, some ⟨[], true, 1, true⟩], Tryd.f16.ntmps, []) := by kernel_rfl
theorem e16os (x : Int) (hx : vint (atC A (f + k.toNat * 1)) = x) : viewU live16 (evL Tryd.prog M (ovN Tryd.prog M) [12, 13, 18, 22, 24] [] [] [11] 200 (items loop16) ⟨mkT Tryd.f16.ntmps live16 (vs16 1 h n (obS f s n c) k) z, [some ⟨A, g, e, fl⟩, some ⟨X, true, 1, true⟩]⟩ [true])
   = some (.normal, [strOf hexS, .slice (some ⟨1, 0, some ((h + 2) * 1)⟩) (h + 2) (h + 2), obS f s n c, .int .i64 n, .int .i64 (IntKind.wrap .i64 (k + 1))], [some ⟨A, g, e, fl⟩, some ⟨X.take (h * 1) ++ [hx1 x, hx2 x], true, 1, true⟩, some ⟨[hx1 x, hx2 x], true, 1, true⟩], Tryd.f16.ntmps,
     [(decide (k < (n : Int)), true), (inB k n, true), (ldB .u8 ⟨A, g, e, fl⟩ s (f + k.toNat * 1), true)] ++ hxP x ++ [(apS X h [hx1 x, hx2 x] 2 2, true)]) := by subst hx; kernel_rfl
theorem e16ox : viewU [4] (evL Tryd.prog M (ovN Tryd.prog M) [] [] [] [11] 200 (items loop16) ⟨mkT Tryd.f16.ntmps live16 (vs16 1 h n (obS f s n c) k) z, [some ⟨A, g, e, fl⟩, some ⟨X, true, 1, true⟩]⟩ [false])
   = some (.exit 0, [slN 1 h], [some ⟨A, g, e, fl⟩, some ⟨X, true, 1, true⟩], Tryd.f16.ntmps, [(decide (k < (n : Int)), false)]) := by kernel_rfl
theorem e16oe : viewU [2] (evL Tryd.prog M (ovN Tryd.prog M) [] [] [] [] 200 [itemN c16 5, itemN c16 6] ⟨mkT Tryd.f16.ntmps [4] [slN 1 h] z, [some ⟨A, g, e, fl⟩, some ⟨X, true, 1, true⟩]⟩ [])
   = some (.ret, [slN 1 h], [some ⟨A, g, e, fl⟩, some ⟨X, true, 1, true⟩], Tryd.f16.ntmps, []) := by kernel_rfl
end

def hex2 (x : Int) : List UInt8 := [hexS.getD (x / 16).toNat 0, hexS.getD (x % 16).toNat 0]
def hexT : Nat → (Nat → Int) → List UInt8
  | 0, _ => []
  | n + 1, x => hexT n x ++ hex2 (x n)
theorem hexT_length (x : Nat → Int) : ∀ n, (hexT n x).length = 2 * n := by
  intro n
  induction n with
  | zero => rfl
  | succ n ih => simp only [hexT, List.length_append, ih, hex2, List.length_cons, List.length_nil]; omega
def inR (n : Nat) (x : Nat → Int) : Bool := (List.range n).all fun i => decide (0 ≤ x i ∧ x i < 256)
theorem inR_at {n : Nat} {x : Nat → Int} (h : inR n x = true) {i : Nat} (hi : i < n) : 0 ≤ x i ∧ x i < 256 :=
  of_decide_eq_true (List.all_eq_true.1 h i (List.mem_range.2 hi))
theorem inR_of {n : Nat} {x : Nat → Int} (h : ∀ i, i < n → 0 ≤ x i ∧ x i < 256) : inR n x = true :=
  List.all_eq_true.2 fun i hi => decide_eq_true (h i (List.mem_range.1 hi))
theorem hex_nums {x : Int} (h : 0 ≤ x ∧ x < 256) : IntKind.u8.wrap (x.tdiv 16) = x / 16 ∧ x.tmod 16 = x % 16 := by
  obtain ⟨n, rfl⟩ : ∃ n : Fin 256, x = (n.val : Int) := ⟨⟨x.toNat, by omega⟩, by simp; omega⟩
  exact (show ∀ n : Fin 256, IntKind.u8.wrap (((n.val : Nat) : Int).tdiv 16) = ((n.val : Nat) : Int) / 16 ∧ ((n.val : Nat) : Int).tmod 16 = ((n.val : Nat) : Int) % 16 by decide +kernel) n
theorem hx12 {x : Int} (h : 0 ≤ x ∧ x < 256) : [hx1 x, hx2 x] = tx (hex2 x) := by
  obtain ⟨e1, e2⟩ := hex_nums h
  simp only [hx1, hx2, e1, e2, hex2, tx, List.map_cons, List.map_nil]
  rfl
theorem hexT_snoc {x : Nat → Int} {i : Nat} : tx (hexT i x) ++ tx (hex2 (x i)) = tx (hexT (i + 1) x) := by rw [hexT, tx_append]
theorem hexP_held {x : Int} {p : Bool} (h : 0 ≤ x ∧ x < 256) (hp : p = true) : Held (hxP x ++ [(p, true)]) := by
  obtain ⟨e1, e2⟩ := hex_nums h
  exact held_cons (by rw [e1]; simp [inB]; omega) (held_cons (by rw [e2]; simp [inB]; omega) (held_one hp))
theorem compact_of {keep : List Nat} {i0 : Nat} {V V' : List Value} {H : AHeap} {objs lo : List AObj} {o : AObj} (h1 : nodupB keep = true) (h2 : gather H keep = some objs) (h3 : renOs (idx keep) objs = some lo) (h4 : renL (idx keep) V = some V') (h5 : lo[i0]? = some o) (h6 : 0 < o.cells.length) : compactV keep i0 V H = some (V', lo) := by
  unfold compactV
  rw [if_pos h1, h2]
  simp only [h3, h4, h5]
  rw [if_pos (Nat.blt_eq.mpr h6)]

theorem hex16r {M : Mem} {b off n c : Nat} (hn : n ≤ 1048576) (hro : ∀ i, i < n → roB .u8 M b (off + i) = true) (hx : inR n (roN M b off) = true) :
    ACalls Tryd.prog M 16 [roS b off n c] [] (slN 0 (hexT n (roN M b off)).length) [] [txO (hexT n (roN M b off))] := by
  refine acalls_of_at Tryd.func16 body16 rfl fun O a w hO hat => ?_
  have hkeep : ∀ k, k < O.h.length → ([0] : List Nat)[k]? = some k := fun k hk => by
    rw [hO] at hk
    exact absurd hk (by simp)
  refine wp_items c16 ?_
  rw [items16]
  show wpL Tryd.prog _ ([itemN c16 0, itemN c16 1, itemN c16 2, itemN c16 3] ++ [.block 0 (.loop loop16), itemN c16 5, itemN c16 6]) a w
  refine hat.items (ovI_ok _ _ _ _ _) nilC mix (fun c _ => hooksOk_nil c) (e16r M b off n c) (fun x hx => by cases hx) rfl (fun _ a1 w1 h1 => ?_) fun hne => absurd rfl hne
  refine wpL_cons (R := fun a' w' => AtV M O Tryd.f16.ntmps [4] [slN 0 (hexT n (roN M b off)).length] [some (txO (hexT n (roN M b off)))] [] (fun _ _ => False) a' w')
    (wp_block (wp_loop_idx (fun i a' w' => AtV M O Tryd.f16.ntmps live16 (vs16 0 (hexT i (roN M b off)).length n (roS b off n c) i) [some (txO (hexT i (roN M b off)))] [] (fun _ _ => False) a' w') n h1 (fun i a w hi h => ?_) fun a w h => ?_)) fun a2 w2 h2 => ?_
  · refine wp_items loop16 (wpL_end ?_)
    have hl := hexT_length (roN M b off) i
    refine h.items (ovI_ok _ _ _ _ _) nilC mix (fun c _ => hooksOk_nil c) (fun z => e16rs M b off n c (hexT i (roN M b off)).length i (tx (hexT i (roN M b off))) z _ rfl) ?_ rfl (fun _ a3 w3 h3 => ?_) fun hne => absurd rfl hne
    · rw [show vint ((M b (off + (i : Int).toNat * 1)).getD undef) = roN M b off i by rw [Int.toNat_natCast, Nat.mul_one]; rfl, Int.toNat_natCast, Nat.mul_one]
      exact held_cons (decide_eq_true (by omega)) (held_cons (by simp [inB]; omega) (held_cons (hro i hi) (hexP_held (inR_at hx hi) (apS_ok (tx_length _) rfl (Nat.le_refl _) (by omega)))))
    · rw [show vint ((M b (off + (i : Int).toNat * 1)).getD undef) = roN M b off i by rw [Int.toNat_natCast, Nat.mul_one]; rfl, nextC hi hn, tx_take0, hx12 (inR_at hx hi), hexT_snoc, Nat.mul_one, show (hexT i (roN M b off)).length + 2 = (hexT (i + 1) (roN M b off)).length by rw [hexT_length, hexT_length]; omega] at h3
      exact ⟨rfl, h3.compact (keep := [0]) (i0 := 0) (V' := vs16 0 (hexT (i + 1) (roN M b off)).length n (roS b off n c) ((i + 1 : Nat) : Int)) (lo := [txO (hexT (i + 1) (roN M b off))]) (compact_of (objs := [txO (hexT (i + 1) (roN M b off))]) (o := txO (hexT (i + 1) (roN M b off))) rfl rfl (by kernel_rfl) (by kernel_rfl) rfl (by rw [tx_length, hexT_length]; omega)) hkeep⟩
  · refine wp_items loop16 (wpL_end ?_)
    refine h.items (ovI_ok _ _ _ _ _) nilC mix (fun c _ => hooksOk_nil c) (fun z => e16rx M b off n c _ n _ z) (held_one (decide_eq_false (by omega))) rfl (fun he => by cases he) fun _ a3 w3 h3 => ?_
    exact ⟨by simp [AExit.to], rfl, h3⟩
  · show wpL Tryd.prog _ ([itemN c16 5, itemN c16 6] ++ []) a2 w2
    refine h2.items (ovI_ok _ _ _ _ _) nilC mix (fun c _ => hooksOk_nil c) (fun z => e16re M _ _ z) (fun x hx => by cases hx) rfl (fun he => by cases he) fun _ a3 w3 h3 => ?_
    obtain ⟨z, h3⟩ := h3
    exact ⟨.inr rfl, _, _, _, slN 0 (hexT n (roN M b off)).length, [], [txO (hexT n (roN M b off))], h3, by kernel_rfl, rfl, rfl, rfl⟩

theorem hex16o {M : Mem} {f s n c : Nat} {A : List Value} {g : Bool} {e : Nat} (hn : n ≤ 1048576) (hro : ∀ i, i < n → ldB .u8 ⟨A, g, e, true⟩ s (f + i) = true) (hx : inR n (fun i => wd A (f + i)) = true) :
    ACalls Tryd.prog M 16 [obS f s n c] [⟨A, g, e, true⟩] (slN 1 (hexT n (fun i => wd A (f + i))).length) [⟨A, g, e, true⟩] [txO (hexT n (fun i => wd A (f + i)))] := by
  refine acalls_of_at Tryd.func16 body16 rfl fun O a w hO hat => ?_
  have hkeep : ∀ k, k < O.h.length → ([0, 1] : List Nat)[k]? = some k := fun k hk => by
    rw [hO] at hk
    have hk : k < 1 := by simpa using hk
    have : k = 0 := by omega
    subst this
    rfl
  refine wp_items c16 ?_
  rw [items16]
  show wpL Tryd.prog _ ([itemN c16 0, itemN c16 1, itemN c16 2, itemN c16 3] ++ [.block 0 (.loop loop16), itemN c16 5, itemN c16 6]) a w
  refine hat.items (ovI_ok _ _ _ _ _) nilC mix (fun c _ => hooksOk_nil c) (e16o M n c f s A g true e) (fun x hx => by cases hx) rfl (fun _ a1 w1 h1 => ?_) fun hne => absurd rfl hne
  refine wpL_cons (R := fun a' w' => AtV M O Tryd.f16.ntmps [4] [slN 1 (hexT n (fun i => wd A (f + i))).length] [some ⟨A, g, e, true⟩, some (txO (hexT n (fun i => wd A (f + i))))] [] (fun _ _ => False) a' w')
    (wp_block (wp_loop_idx (fun i a' w' => AtV M O Tryd.f16.ntmps live16 (vs16 1 (hexT i (fun i => wd A (f + i))).length n (obS f s n c) i) [some ⟨A, g, e, true⟩, some (txO (hexT i (fun i => wd A (f + i))))] [] (fun _ _ => False) a' w') n h1 (fun i a w hi h => ?_) fun a w h => ?_)) fun a2 w2 h2 => ?_
  · refine wp_items loop16 (wpL_end ?_)
    have hl := hexT_length (fun i => wd A (f + i)) i
    refine h.items (ovI_ok _ _ _ _ _) nilC mix (fun c _ => hooksOk_nil c) (fun z => e16os M n c (hexT i (fun i => wd A (f + i))).length f s i (tx (hexT i (fun i => wd A (f + i)))) z A g true e _ rfl) ?_ rfl (fun _ a3 w3 h3 => ?_) fun hne => absurd rfl hne
    · rw [show vint (atC A (f + (i : Int).toNat * 1)) = wd A (f + i) by rw [Int.toNat_natCast, Nat.mul_one]; rfl, Int.toNat_natCast, Nat.mul_one]
      exact held_cons (decide_eq_true (by omega)) (held_cons (by simp [inB]; omega) (held_cons (hro i hi) (hexP_held (inR_at hx hi) (apS_ok (tx_length _) rfl (Nat.le_refl _) (by omega)))))
    · rw [show vint (atC A (f + (i : Int).toNat * 1)) = wd A (f + i) by rw [Int.toNat_natCast, Nat.mul_one]; rfl, nextC hi hn, tx_take0, hx12 (inR_at hx hi), hexT_snoc, Nat.mul_one, show (hexT i (fun i => wd A (f + i))).length + 2 = (hexT (i + 1) (fun i => wd A (f + i))).length by rw [hexT_length, hexT_length]; omega] at h3
      exact ⟨rfl, h3.compact (keep := [0, 1]) (i0 := 1) (V' := vs16 1 (hexT (i + 1) (fun i => wd A (f + i))).length n (obS f s n c) ((i + 1 : Nat) : Int)) (lo := [⟨A, g, e, true⟩, txO (hexT (i + 1) (fun i => wd A (f + i)))]) (compact_of (objs := [⟨A, g, e, true⟩, txO (hexT (i + 1) (fun i => wd A (f + i)))]) (o := txO (hexT (i + 1) (fun i => wd A (f + i)))) rfl rfl (by kernel_rfl) (by kernel_rfl) rfl (by rw [tx_length, hexT_length]; omega)) hkeep⟩
  · refine wp_items loop16 (wpL_end ?_)
    refine h.items (ovI_ok _ _ _ _ _) nilC mix (fun c _ => hooksOk_nil c) (fun z => e16ox M n c _ f s n _ z A g true e) (held_one (decide_eq_false (by omega))) rfl (fun he => by cases he) fun _ a3 w3 h3 => ?_
    exact ⟨by simp [AExit.to], rfl, h3⟩
  · show wpL Tryd.prog _ ([itemN c16 5, itemN c16 6] ++ []) a2 w2
    refine h2.items (ovI_ok _ _ _ _ _) nilC mix (fun c _ => hooksOk_nil c) (fun z => e16oe M _ _ z A g true e) (fun x hx => by cases hx) rfl (fun he => by cases he) fun _ a3 w3 h3 => ?_
    obtain ⟨z, h3⟩ := h3
    exact ⟨.inr rfl, _, _, _, slN 1 (hexT n (fun i => wd A (f + i))).length, [⟨A, g, e, true⟩], [txO (hexT n (fun i => wd A (f + i)))], h3, by kernel_rfl, rfl, rfl, rfl⟩
end Go.Proofs.YtfkdcpinajnbfaaDoor
