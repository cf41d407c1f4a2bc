/- The limiter's Allow: what it answers, in plain words (variant Z).
   Conditions: keys of bytes. -/
import Derived.Test.YtfkdcpinajnbfaaOutZ
import Derived.Test.YtfkdcpinajnbfaaAllowS
open Go.Ab
set_option linter.unusedVariables false
set_option linter.unusedSimpArgs false
namespace Go.Proofs.Ytfkdcpinajnbfaa
set_option maxRecDepth 100000

theorem enters19Z : Go.Ab.Enters Try.prog 19 := ⟨_, Try.func19, by kernel_rfl, by kernel_rfl⟩

theorem allowZ {M : Mem} {most sw now : Int} {key : Key} (hkey : KeyOk key) :
    ACallsG Try.prog M 9 [.agg #[.int .i64 most, .int .i64 sw, .slice none 0 0], kv key, .int .i64 now] [] fun v os' ns _ => os' = [] ∧ AllowR most sw now [] key 0 v ns := by
  refine acallsG_of_at Try.func9 body9 fun O a w hO hat => ?_
  have hO' : O.h = [] := hO
  refine wp_items c9 ?_
  rw [items9]
  show wpL Try.prog _ ([itemN c9 0] ++ [itemN c9 1, itemN c9 2, itemN c9 3, itemN c9 4, itemN c9 5, .cond (.tmp 34) sw9 .skip, itemN c9 7, itemN c9 8, itemN c9 9, .cond (.tmp 58) u9 v9, itemN c9 11, itemN c9 12, .block 2 (.loop m9), itemN c9 14, itemN c9 15, .block 4 (.loop g9), itemN c9 17, itemN c9 18]) a w
  refine hat.items (ovS_ok shT _ _) nilC mix (fun c _ => hooksOk_nil c) (startZ M  most sw now key) (fun x hx => by cases hx) rfl (fun _ a1 w1 h1 => ?_) fun hne => absurd rfl hne
  show (itemN c9 1).wp Try.prog (Exit.then (wpL Try.prog _ [itemN c9 2, itemN c9 3, itemN c9 4, itemN c9 5, .cond (.tmp 34) sw9 .skip, itemN c9 7, itemN c9 8, itemN c9 9, .cond (.tmp 58) u9 v9, itemN c9 11, itemN c9 12, .block 2 (.loop m9), itemN c9 14, itemN c9 15, .block 4 (.loop g9), itemN c9 17, itemN c9 18]) _) a1 w1
  refine wp_rgn make_f make_r ?_
  refine h1.ops (K := fnsC []) (cl := fun l => l) (fnsC_sound nilC) (fun z => argZ M  most sw now key z) rfl fun a2 w2 h2 => ?_
  refine h2.callG (L := []) make_o make_g make_p (fun z => by kernel_rfl) enters19Z (us := [.agg #[.int .i64 most, .int .i64 sw, .slice none 0 0], .int .i64 now]) (fun z => by kernel_rfl) rfl (objs := []) rfl rfl rfl (R := TabR most sw now []) (fun v g hR => by
      rcases hR with ⟨rfl, _⟩ | ⟨mb, Ls, rfl, _⟩
      · rfl
      · rfl) tableZ rfl (live' := [2, 3, 4, 6, 7, 21]) (V' := fun v => v3Z now [.bool false, v]) (fun z v => by rw [make_d]; exact putCZ  most sw now z v) fun v g1 w3 hR h3 => ?_
  refine h3.ops (K := fnsC []) (cl := fun l => l) (fnsC_sound nilC) (fun z => asgCZ M  most sw now key z v) rfl fun a4 w4 h4 => ?_
  rcases hR with ⟨rfl, hbad⟩ | ⟨mb, Ls, rfl, hh, hrows, hbs, hnums, hok, rfl⟩
  · show wpL Try.prog _ ([itemN c9 2, itemN c9 3] ++ _) a4 w4
    refine h4.items (ovS_ok shT _ _) nilC mix (fun c _ => hooksOk_nil c) (fun z => nilMZ M  most sw now key z) (fun x hx => by cases hx) rfl (fun he => by cases he) fun _ a5 w5 h5 => ?_
    obtain ⟨z, h5⟩ := h5
    exact ⟨.inr rfl, _, _, _, .tuple #[.agg #[.int .i64 0, .int .i64 0, .slice none 0 0], .bool false], [], [], h5, by kernel_rfl, rfl, .inl ⟨hbad, rfl, rfl⟩⟩
  have hvalid : ValidL most sw now [] := ⟨hh, hrows⟩
  have hlenL : Ls.length = 0 := by have := congrArg List.length hbs; simpa using this
  have hle : Ls.length ≤ 4096 := by
    have := hh.h2
    have := hh.h3
    rw [hlenL]; decide
  have h4' : AtV M O N9 [2, 3, 4, 6, 7, 8] (v3Z now [.bool false, .map (some mb)]) (h3Z  most sw key) [] (gMap mb 0 Ls) a4 w4 := h4.weaken fun b x hx => .inr hx
  -- what is asked, listed, sorted and written
  have fin : ∀ (L1 : List Ent) (sw' : Int), L1.length ≤ Ls.length → MapOk mb 0 L1 → bksL L1 = sweepB sw now [] → sw' = swB sw now → ∀ a5 w5, AtV M O N9 [2, 3, 4, 6, 8, 9] (vAZ mb now []) (hAZ  most sw sw' key) [] (gMap mb 0 L1) a5 w5 →
      wpL Try.prog (Done Try.prog M O Try.f9 ([] : List AObj).length fun v os' ns _ => os' = [] ∧ AllowR most sw now [] key 0 v ns) [itemN c9 7, itemN c9 8, itemN c9 9, .cond (.tmp 58) u9 v9, itemN c9 11, itemN c9 12, .block 2 (.loop m9), itemN c9 14, itemN c9 15, .block 4 (.loop g9), itemN c9 17, itemN c9 18] a5 w5 := by
    intro L1 sw' hl1 hok1 hb1 hsw a5 w5 h5
    refine askZ hO' rfl hok1 hkey h5 fun b clk' L2 hask hok2 a6 w6 h6 => ?_
    obtain ⟨hp2, hl2⟩ := ask_len hask hh.h1
    refine listZ hO' hok2 (by omega) h6 fun Pk hn hs hlen a7 w7 h7 => ?_
    refine sortZ hO' hok2 (by omega) hp2 hn hs hlen h7 fun a8 w8 h8 => ?_
    have h9 := outZ hO' hok2 (by omega) hp2 h8
    have hpl := ask_plain hok1 hask
    rw [hb1] at hpl
    have e2 : (allowL most sw now key []).2 = bksL L2 := by unfold allowL; rw [hpl]
    have e1 : (allowL most sw now key []).1 = b := by unfold allowL; rw [hpl]
    have e3 : (bksL L2).length = L2.length := by simp [bksL]
    have himp : ∀ e a w, Done Try.prog M O Try.f9 ([] : List AObj).length (fun v os' ns _ => v = .tuple #[.agg #[.int .i64 most, .int .i64 sw', .slice (some ⟨0, 0, some (L2.length * 11)⟩) L2.length L2.length], .bool b] ∧ os' = [] ∧ ns = [⟨rowsL (bksL L2), true, 11, true⟩]) e a w →
        Done Try.prog M O Try.f9 ([] : List AObj).length (fun v os' ns _ => os' = [] ∧ AllowR most sw now [] key 0 v ns) e a w := by
      rintro e a w ⟨he, s, nm, g, v, os', ns, hat, hf, h1, h2, h3⟩
      refine ⟨he, s, nm, g, v, os', ns, hat, hf, h2, .inr ⟨hvalid, ?_, ?_⟩⟩
      · rw [h1, e1, e2, e3, hsw]
      · rw [h3, e2]
    exact wpL_mono himp h9
  by_cases hsw : IntKind.i64.wrap (now - sw) > 1000000000
  · show wpL Try.prog _ ([itemN c9 2, itemN c9 3, itemN c9 4, itemN c9 5] ++ (.cond (.tmp 34) sw9 .skip :: [itemN c9 7, itemN c9 8, itemN c9 9, .cond (.tmp 58) u9 v9, itemN c9 11, itemN c9 12, .block 2 (.loop m9), itemN c9 14, itemN c9 15, .block 4 (.loop g9), itemN c9 17, itemN c9 18])) a4 w4
    refine h4'.items (ovS_ok shT _ _) nilC mix (fun c _ => hooksOk_nil c) (fun z => headtrueZ M  mb most sw now key z) (held_one (decide_eq_true hsw)) rfl (fun _ a5 w5 h5 => ?_) fun hne => absurd rfl hne
    have e1 : a5.eval (.tmp 34) = .bool true := h5.eval (fun z => by kernel_rfl) rfl
    have h6 := h5.live (live' := [2, 3, 4, 6, 8, 9]) (V' := vAZ mb now []) (fun z => by kernel_rfl)
    refine wp_cond_true e1 (sweepZ hO' hok h6 fun a6 w6 h7 => fin _ now (List.length_filter_le _ _) (hok.filter _) ?_ ?_ a6 w6 h7)
    · unfold sweepB
      rw [if_pos hsw, ← hbs]
      simp only [bksL]
      rw [List.filter_map]
      rfl
    · unfold swB; rw [if_pos hsw]
  · show wpL Try.prog _ ([itemN c9 2, itemN c9 3, itemN c9 4, itemN c9 5] ++ (.cond (.tmp 34) sw9 .skip :: [itemN c9 7, itemN c9 8, itemN c9 9, .cond (.tmp 58) u9 v9, itemN c9 11, itemN c9 12, .block 2 (.loop m9), itemN c9 14, itemN c9 15, .block 4 (.loop g9), itemN c9 17, itemN c9 18])) a4 w4
    refine h4'.items (ovS_ok shT _ _) nilC mix (fun c _ => hooksOk_nil c) (fun z => headfalseZ M  mb most sw now key z) (held_one (decide_eq_false hsw)) rfl (fun _ a5 w5 h5 => ?_) fun hne => absurd rfl hne
    have e1 : a5.eval (.tmp 34) = .bool false := h5.eval (fun z => by kernel_rfl) rfl
    have h6 := h5.live (live' := [2, 3, 4, 6, 8, 9]) (V' := vAZ mb now []) (fun z => by kernel_rfl)
    refine wp_cond_false e1 (wp_skip (fin Ls sw (Nat.le_refl _) hok ?_ ?_ a5 w5 h6))
    · unfold sweepB; rw [if_neg hsw, ← hbs]; rfl
    · unfold swB; rw [if_neg hsw]
end Go.Proofs.Ytfkdcpinajnbfaa
