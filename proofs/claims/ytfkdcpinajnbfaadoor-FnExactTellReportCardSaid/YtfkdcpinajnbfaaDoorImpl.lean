/- The program's TellReport: the report's text.
   Conditions: the report lies in memory, its numbers in range; the table of powers of ten. -/
import Derived.Test.YtfkdcpinajnbfaaDoorImplE
open Go.Ab Go.Num
set_option linter.unusedVariables false
set_option linter.unusedSimpArgs false
namespace Go.Proofs.YtfkdcpinajnbfaaDoor
set_option maxRecDepth 100000
theorem itoa_pos (v : Int) : 0 < (Lib.itoa v).length := by
  unfold Lib.itoa
  split
  · simp
  · rw [Lib.decDigits_length]; exact Lib.nDigits_pos _
theorem scr7_T {M : Mem} {o : Ob} {B m C : Nat} : stT (scr7 M o B m C (decide (0 < m)) (!isZ32 o.chain) (!isZ32 o.hash)) = rowT o m (roN M B 0) := by
  unfold scr7 rowT
  rw [chain_T, hash_T, src_T]
  cases decide (0 < m) <;> cases isZ32 o.chain <;> cases isZ32 o.hash <;> cases o.ld <;> simp [stT, ldT, List.append_assoc]
theorem scr7_ok {M : Mem} {o : Ob} {B m C : Nat} (h : ObOk o) (hx : hexRoB M B 0 m = true) : stOk (scr7 M o B m C (decide (0 < m)) (!isZ32 o.chain) (!isZ32 o.hash)) := by
  have h1 := chain_ok h (cpS B m C)
  have h2 := hash_ok h (cpS B m C)
  have h3 := src_ok h
  have h4 := h.vd
  have h5 := h.dh
  have h6 := h.cl
  have h7 : decide ((m : Int) > 0) = decide (0 < m) := by simp
  unfold scr7
  rw [h1, h2, h3, h4, h5, h6, h7, hx]
  cases decide (0 < m) <;> cases isZ32 o.chain <;> cases isZ32 o.hash <;> cases o.ld <;> simp [stOk]
def I7 (M : Mem) (O : Org) (M0 : Mem) (q : Cp) (R : List Row) (dh code : Int) (i : Nat) (a : Go.Act) (w : World) : Prop :=
  AtV M O Tryd.f7.ntmps liveM (vsL q.b R.length q.c (repT M0 (R.take i) dh code).length i) [some (txO (repT M0 (R.take i) dh code))] [] (fun _ _ => False) a w

theorem round7 {M : Mem} (hM : PowOk M) {O : Org} {M0 : Mem} {q : Cp} {R : List Row} {L : List Cp} {dh code : Int} (hO : O.h = []) (hd : i64B dh = true) (hc : i64B code = true) (h : RepAt M M0 q R L) {i : Nat} (hi : i < R.length) {a : Go.Act} {w : World} (hI : I7 M O M0 q R dh code i a w) :
    loop7.wp Tryd.prog (fun e a' w' => e = .normal ∧ I7 M O M0 q R dh code (i + 1) a' w') a w := by
  have hkeep : ∀ (l : List Nat) k, k < O.h.length → l[k]? = some k := fun l k hk => by rw [hO] at hk; exact absurd hk (by simp)
  obtain ⟨r, hr⟩ : ∃ r, R[i]? = some r := ⟨_, List.getElem?_eq_getElem hi⟩
  obtain ⟨p, hp⟩ : ∃ p, L[i]? = some p := ⟨_, List.getElem?_eq_getElem (by rw [h.len]; exact hi)⟩
  obtain ⟨hrow, hhex, hob, hsm, hby⟩ := h.row i r p hr hp
  have hn := h.small
  have hsn : R.take (i + 1) = R.take i ++ [r] := by rw [List.take_add_one, hr]; rfl
  have hT : repT M0 (R.take (i + 1)) dh code = repT M0 (R.take i) dh code ++ rowT r.1 r.2.len (r.2.byte M0) := by
    rw [hsn, repT, rowsT_snoc, ← List.append_assoc]; rfl
  have hlen : (repT M0 (R.take (i + 1)) dh code).length ≤ 10000000000000 := by
    have h1 := headT_len hd hc
    have h2 : (rowsT M0 (R.take (i + 1))).length ≤ (R.take (i + 1)).length * 2100000 := rowsT_len fun r' hr' => by
      have hm := List.mem_of_mem_take hr'
      obtain ⟨j, hj, e⟩ := List.getElem_of_mem hm
      obtain ⟨p', hp'⟩ : ∃ p', L[j]? = some p' := ⟨_, List.getElem?_eq_getElem (by rw [h.len]; exact hj)⟩
      have := h.row j r' p' (by rw [← e]; exact List.getElem?_eq_getElem hj) hp'
      exact ⟨this.2.2.1, this.2.2.2.1⟩
    rw [List.length_take] at h2
    simp only [repT, List.length_append]
    have : min (i + 1) R.length ≤ 1048576 := by omega
    have := Nat.mul_le_mul_right 2100000 this
    omega
  have hsc : stT (scr7 M r.1 p.b r.2.len p.c (decide (0 < r.2.len)) (!isZ32 r.1.chain) (!isZ32 r.1.hash)) = rowT r.1 r.2.len (r.2.byte M0) := by
    rw [scr7_T]
    have : hexT r.2.len (roN M p.b 0) = hexT r.2.len (r.2.byte M0) := hexT_congr hby
    unfold rowT
    rw [this]
  refine wp_items loop7 ?_
  rw [itemsL7]
  show wpL Tryd.prog _ ([itemN loop7 0, itemN loop7 1] ++ [.block 1 b7, itemN loop7 3]) a w
  refine hI.items (ovI_ok _ _ _ _ _) nilC mix (fun c _ => hooksOk_nil c) (fun z => e7s M q.b R.length q.c _ i _ z) (held_one (decide_eq_true (by omega))) rfl (fun _ a1 w1 h1 => ?_) fun hne => absurd rfl hne
  refine wpL_cons (R := fun a' w' => AtV M O Tryd.f7.ntmps liveM (vsL q.b R.length q.c (repT M0 (R.take (i + 1)) dh code).length i) [some (txO (repT M0 (R.take (i + 1)) dh code))] [] (fun _ _ => False) a' w') (wp_block_items ?_) fun a2 w2 h2 => ?_
  · rw [itemsB7]
    show wpL Tryd.prog _ ([itemN b7 0] ++ [itemN b7 1, itemN b7 2, itemN b7 3, itemN b7 4, itemN b7 5, itemN b7 6, itemN b7 7, itemN b7 8, itemN b7 9]) a1 w1
    refine h1.items (ovI_ok _ _ _ _ _) nilC mix (fun c _ => hooksOk_nil c) (fun z => e7l M q.b R.length q.c _ p.b r.2.len p.c i _ r.1 z) (held_cons (by simp [inB]; omega) (held_one (rowB_iff.2 (by rw [Int.toNat_natCast]; exact hrow)))) rfl (fun _ a3 w3 h3 => ?_) fun hne => absurd rfl hne
    have h4 := h3.flatten (i := 1) rfl (by rw [hO]; rfl) (obC_flat r.1 r.2.len p)
    show wpL Tryd.prog _ ([itemN b7 1, itemN b7 2, itemN b7 3, itemN b7 4, itemN b7 5, itemN b7 6, itemN b7 7, itemN b7 8, itemN b7 9] ++ []) a3 w3
    refine h4.items (ovI_ok _ _ _ _ _) (consC (itoaSum_sound hM) (consC (joinSum_sound M) (consC (srcoSum_sound hM) (consC (hexoSum_sound M) nilC)))) mix (fun c _ => hooksOk_nil c) (fun z => e7r M q.b R.length q.c _ p.b r.2.len p.c i _ z (decide (0 < r.2.len)) (!isZ32 r.1.chain) (!isZ32 r.1.hash) r.1) (stP_held _ _ _ rfl (scr7_ok hob hhex) (by rw [hsc, ← hT]; exact hlen)) rfl (fun _ a5 w5 h5 => ?_) fun hne => absurd rfl hne
    rw [stC_eq, stN_eq, hsc, ← hT, Nat.mul_one] at h5
    exact ⟨rfl, h5.compact (keep := [0]) (i0 := 0) (V' := vsL q.b R.length q.c (repT M0 (R.take (i + 1)) dh code).length i) (lo := [txO (repT M0 (R.take (i + 1)) dh code)]) (compact_of (objs := [txO (repT M0 (R.take (i + 1)) dh code)]) (o := txO (repT M0 (R.take (i + 1)) dh code)) rfl rfl (by kernel_rfl) (by kernel_rfl) rfl (by rw [tx_length]; simp [repT, headT]; omega)) (hkeep _)⟩
  · show wpL Tryd.prog _ ([itemN loop7 3] ++ []) a2 w2
    refine h2.items (ovI_ok _ _ _ _ _) nilC mix (fun c _ => hooksOk_nil c) (fun z => e7i M q.b R.length q.c _ i _ z) (fun x hx => by cases hx) rfl (fun _ a6 w6 h6 => ?_) fun hne => absurd rfl hne
    rw [nextC hi hn] at h6
    exact ⟨rfl, h6⟩

theorem tell7 {M M0 : Mem} (hM : PowOk M) {q : Cp} {R : List Row} {L : List Cp} {dh code : Int} (hd : i64B dh = true) (hc : i64B code = true) (h : RepAt M M0 q R L) :
    ACalls Tryd.prog M 7 [.agg ⟨repL (q.sl R.length) dh code⟩] [] (slN 0 (repT M0 R dh code).length) [] [txO (repT M0 R dh code)] := by
  refine acalls_of_at Tryd.func7 body7 rfl fun O a w hO hat => ?_
  replace hO : O.h = [] := hO
  have hkeep : ∀ (l : List Nat) k, k < O.h.length → l[k]? = some k := fun l k hk => by rw [hO] at hk; exact absurd hk (by simp)
  have hh : hdT dh code = repT M0 [] dh code := by simp [hdT, repT, headT, rowsT]
  have hlen := headT_len hd hc
  refine wp_items c7 ?_
  rw [items7]
  show wpL Tryd.prog _ ([itemN c7 0, itemN c7 1, itemN c7 2] ++ [.block 0 (.loop loop7), itemN c7 4, itemN c7 5]) a w
  refine hat.items (ovI_ok _ _ _ _ _) (consC (itoaSum_sound hM) (consC (joinSum_sound M) nilC)) mix (fun c _ => hooksOk_nil c) (e7a M q.b R.length q.c dh code) (held_cons hc (held_cons hd (held_one ?_))) rfl (fun _ a1 w1 h1 => ?_) fun hne => absurd rfl hne
  · simp only [jB0, Bool.and_eq_true, decide_eq_true_eq]
    refine ⟨itoa_pos code, ?_⟩
    have : (hdT dh code).length = (headT dh code).length := rfl
    omega
  rw [hh] at h1
  have h2 := h1.compact (keep := [2]) (i0 := 0) (V' := vsL q.b R.length q.c (repT M0 [] dh code).length 0) (lo := [txO (repT M0 [] dh code)]) (compact_of (objs := [txO (repT M0 [] dh code)]) (o := txO (repT M0 [] dh code)) rfl rfl (by kernel_rfl) (by kernel_rfl) rfl (by rw [tx_length]; simp [repT, headT]; omega)) (hkeep _)
  refine wpL_cons (R := fun a' w' => AtV M O Tryd.f7.ntmps [3] [slN 0 (repT M0 R dh code).length] [some (txO (repT M0 R dh code))] [] (fun _ _ => False) a' w') (wp_block (wp_loop_idx (I7 M O M0 q R dh code) R.length h2 (fun i a w hi hI => round7 hM hO hd hc h hi hI) fun a w hI => ?_)) fun a3 w3 h3 => ?_
  · unfold I7 at hI
    rw [List.take_length] at hI
    refine wp_items loop7 (wpL_end ?_)
    refine hI.items (ovI_ok _ _ _ _ _) nilC mix (fun c _ => hooksOk_nil c) (fun z => e7x M q.b R.length q.c _ _ _ z) (held_one (decide_eq_false (by omega))) rfl (fun he => by cases he) fun _ a4 w4 h4 => ?_
    exact ⟨by simp [AExit.to], rfl, h4⟩
  · show wpL Tryd.prog _ ([itemN c7 4, itemN c7 5] ++ []) a3 w3
    refine h3.items (ovI_ok _ _ _ _ _) nilC mix (fun c _ => hooksOk_nil c) (fun z => e7e M _ _ z) (fun x hx => by cases hx) rfl (fun he => by cases he) fun _ a4 w4 h4 => ?_
    obtain ⟨z, h4⟩ := h4
    exact ⟨.inr rfl, _, _, _, slN 0 (repT M0 R dh code).length, [], [txO (repT M0 R dh code)], h4, by kernel_rfl, rfl, rfl, rfl⟩
end Go.Proofs.YtfkdcpinajnbfaaDoor
