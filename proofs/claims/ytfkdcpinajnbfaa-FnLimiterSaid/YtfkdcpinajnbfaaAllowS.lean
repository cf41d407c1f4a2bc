/- The limiter's Allow: what it answers, in plain words (variant S).
   Conditions: keys of bytes. -/
import Derived.Test.YtfkdcpinajnbfaaOutS
open Go.Ab
set_option linter.unusedVariables false
set_option linter.unusedSimpArgs false
namespace Go.Proofs.Ytfkdcpinajnbfaa
set_option maxRecDepth 100000

/-! ### Allow in plain words -/
def idleB (now : Int) (b : Bk) : Bool := decide (IntKind.i64.wrap (now - b.last) > 1000000000)
def swB (sw now : Int) : Int := if IntKind.i64.wrap (now - sw) > 1000000000 then now else sw
def sweepB (sw now : Int) (L : List Bk) : List Bk := if IntKind.i64.wrap (now - sw) > 1000000000 then L.filter (fun b => !idleB now b) else L
def hasK (key : Key) (L : List Bk) : Bool := L.any fun b => decide (b.k = key)
def updL (now : Int) (key : Key) (L : List Bk) : List Bk := L.map fun b => if b.k = key then askB now b else b
def passK (now : Int) (key : Key) (L : List Bk) : Bool := L.any fun b => decide (b.k = key) && decide (grownR now b ≥ 50000000)
def askL (most now : Int) (key : Key) (L : List Bk) : Bool × List Bk :=
  if hasK key L then (passK now key L, updL now key L) else if (L.length : Int) < most then (true, L ++ [⟨key, 200000000, now⟩]) else (false, L)
def allowL (most sw now : Int) (key : Key) (L : List Bk) : Bool × List Bk := askL most now key (sweepB sw now L)
def ValidL (most sw now : Int) (L : List Bk) : Prop := HeadOk most sw now L.length ∧ RowsOk now L

theorem hasK_iff {key : Key} {Ls : List Ent} : hasK key (bksL Ls) = true ↔ ∃ e ∈ Ls, e.b.k = key := by
  simp [hasK, bksL]
theorem ask_plain {most now : Int} {key : Key} {clk clk' mb : Nat} {Ls L2 : List Ent} {b : Bool} (hok : MapOk mb clk Ls) (h : AskR most now key clk Ls b clk' L2) : askL most now key (bksL Ls) = (b, bksL L2) := by
  have hlen : (bksL Ls).length = Ls.length := by simp [bksL]
  cases h with
  | found e he hk =>
    unfold askL
    rw [if_pos (hasK_iff.2 ⟨e, he, hk⟩)]
    refine Prod.ext ?_ ?_
    · show passK now key (bksL Ls) = _
      rw [Bool.eq_iff_iff, decide_eq_true_eq]
      simp only [passK, bksL, List.any_map, List.any_eq_true, Function.comp, Bool.and_eq_true, decide_eq_true_eq]
      constructor
      · rintro ⟨x, hx, hxk, hg⟩
        have := ent_of_key hok.apart hx he (hxk.trans hk.symm)
        subst this
        exact hg
      · intro hg; exact ⟨e, he, hk, hg⟩
    · show updL now key (bksL Ls) = _
      simp only [updL, bksL, List.map_map]
      refine List.map_congr_left fun x _ => ?_
      simp only [Function.comp, askE]
      split <;> rfl
  | new blk hn hl =>
    unfold askL
    rw [if_neg (fun h => by obtain ⟨e, he, hk⟩ := hasK_iff.1 h; exact hn e he hk), hlen, if_pos hl]
    simp [bksL]
  | full hn hl =>
    unfold askL
    rw [if_neg (fun h => by obtain ⟨e, he, hk⟩ := hasK_iff.1 h; exact hn e he hk), hlen, if_neg hl]
theorem ask_len {most now : Int} {key : Key} {clk clk' : Nat} {Ls L2 : List Ent} {b : Bool} (h : AskR most now key clk Ls b clk' L2) (h1 : 1 ≤ most) : 0 < L2.length ∧ L2.length ≤ Ls.length + 1 := by
  cases h with
  | found e he hk => simp; exact List.length_pos_of_mem he
  | new blk hn hl => simp
  | full hn hl => omega

/-- What Allow hands back. -/
def AllowR (most sw now : Int) (L : List Bk) (key : Key) (i : Nat) (v : Value) (ns : List AObj) : Prop :=
  (¬ ValidL most sw now L ∧ v = .tuple #[.agg #[.int .i64 0, .int .i64 0, .slice none 0 0], .bool false] ∧ ns = []) ∨
  (ValidL most sw now L ∧ v = .tuple #[.agg #[.int .i64 most, .int .i64 (swB sw now), .slice (some ⟨i, 0, some ((allowL most sw now key L).2.length * 11)⟩) (allowL most sw now key L).2.length (allowL most sw now key L).2.length], .bool (allowL most sw now key L).1] ∧
    ns = [⟨rowsL (allowL most sw now key L).2, true, 11, true⟩])

theorem enters19S : Go.Ab.Enters Try.prog 19 := ⟨_, Try.func19, by kernel_rfl, by kernel_rfl⟩

theorem allowS {M : Mem} {L : List Bk} {gr : Bool} {es c : Nat} {most sw now : Int} {key : Key} (hk : ∀ b ∈ L, KeyOk b.k) (hkey : KeyOk key) :
    ACallsG Try.prog M 9 [.agg #[.int .i64 most, .int .i64 sw, slR L.length c], kv key, .int .i64 now] [⟨rowsL L, gr, es, true⟩] fun v os' ns _ => os' = [⟨rowsL L, gr, es, true⟩] ∧ AllowR most sw now L key 1 v ns := by
  refine acallsG_of_at Try.func9 body9 fun O a w hO hat => ?_
  have hO' : O.h = [some ⟨rowsL L, gr, es, true⟩] := hO
  refine wp_items c9 ?_
  rw [items9]
  show wpL Try.prog _ ([itemN c9 0] ++ [itemN c9 1, itemN c9 2, itemN c9 3, itemN c9 4, itemN c9 5, .cond (.tmp 34) sw9 .skip, itemN c9 7, itemN c9 8, itemN c9 9, .cond (.tmp 58) u9 v9, itemN c9 11, itemN c9 12, .block 2 (.loop m9), itemN c9 14, itemN c9 15, .block 4 (.loop g9), itemN c9 17, itemN c9 18]) a w
  refine hat.items (ovS_ok shT _ _) nilC mix (fun c _ => hooksOk_nil c) (startS M (rowsL L) gr es L.length c most sw now key) (fun x hx => by cases hx) rfl (fun _ a1 w1 h1 => ?_) fun hne => absurd rfl hne
  show (itemN c9 1).wp Try.prog (Exit.then (wpL Try.prog _ [itemN c9 2, itemN c9 3, itemN c9 4, itemN c9 5, .cond (.tmp 34) sw9 .skip, itemN c9 7, itemN c9 8, itemN c9 9, .cond (.tmp 58) u9 v9, itemN c9 11, itemN c9 12, .block 2 (.loop m9), itemN c9 14, itemN c9 15, .block 4 (.loop g9), itemN c9 17, itemN c9 18]) _) a1 w1
  refine wp_rgn make_f make_r ?_
  refine h1.ops (K := fnsC []) (cl := fun l => l) (fnsC_sound nilC) (fun z => argS M (rowsL L) gr es L.length c most sw now key z) rfl fun a2 w2 h2 => ?_
  refine h2.callG (L := [0]) make_o make_g make_p (fun z => by kernel_rfl) enters19S (us := [.agg #[.int .i64 most, .int .i64 sw, slR L.length c], .int .i64 now]) (fun z => by kernel_rfl) rfl (objs := [⟨rowsL L, gr, es, true⟩]) rfl rfl rfl (R := TabR most sw now L) (fun v g hR => by
      rcases hR with ⟨rfl, _⟩ | ⟨mb, Ls, rfl, _⟩
      · rfl
      · rfl) (tableS hk) rfl (live' := [2, 3, 4, 6, 7, 21]) (V' := fun v => v3S now [.bool false, v]) (fun z v => by rw [make_d]; exact putCS L.length c most sw now z v) fun v g1 w3 hR h3 => ?_
  refine h3.ops (K := fnsC []) (cl := fun l => l) (fnsC_sound nilC) (fun z => asgCS M (rowsL L) gr es L.length c most sw now key z v) rfl fun a4 w4 h4 => ?_
  rcases hR with ⟨rfl, hbad⟩ | ⟨mb, Ls, rfl, hh, hrows, hbs, hnums, hok, rfl⟩
  · show wpL Try.prog _ ([itemN c9 2, itemN c9 3] ++ _) a4 w4
    refine h4.items (ovS_ok shT _ _) nilC mix (fun c _ => hooksOk_nil c) (fun z => nilMS M (rowsL L) gr es L.length c most sw now key z) (fun x hx => by cases hx) rfl (fun he => by cases he) fun _ a5 w5 h5 => ?_
    obtain ⟨z, h5⟩ := h5
    exact ⟨.inr rfl, _, _, _, .tuple #[.agg #[.int .i64 0, .int .i64 0, .slice none 0 0], .bool false], [⟨rowsL L, gr, es, true⟩], [], h5, by kernel_rfl, rfl, .inl ⟨hbad, rfl, rfl⟩⟩
  have hvalid : ValidL most sw now L := ⟨hh, hrows⟩
  have hlenL : Ls.length = L.length := by have := congrArg List.length hbs; simpa using this
  have hle : Ls.length ≤ 4096 := by
    have := hh.h2
    have := hh.h3
    rw [hlenL]; omega
  have h4' : AtV M O N9 [2, 3, 4, 6, 7, 8] (v3S now [.bool false, .map (some mb)]) (h3S (rowsL L) gr es L.length c most sw key) [] (gMap mb L.length Ls) a4 w4 := h4.weaken fun b x hx => .inr hx
  -- what is asked, listed, sorted and written
  have fin : ∀ (L1 : List Ent) (sw' : Int), L1.length ≤ Ls.length → MapOk mb L.length L1 → bksL L1 = sweepB sw now L → sw' = swB sw now → ∀ a5 w5, AtV M O N9 [2, 3, 4, 6, 8, 9] (vAS mb now []) (hAS (rowsL L) gr es L.length c most sw sw' key) [] (gMap mb L.length L1) a5 w5 →
      wpL Try.prog (Done Try.prog M O Try.f9 ([⟨rowsL L, gr, es, true⟩] : List AObj).length fun v os' ns _ => os' = [⟨rowsL L, gr, es, true⟩] ∧ AllowR most sw now L key 1 v ns) [itemN c9 7, itemN c9 8, itemN c9 9, .cond (.tmp 58) u9 v9, itemN c9 11, itemN c9 12, .block 2 (.loop m9), itemN c9 14, itemN c9 15, .block 4 (.loop g9), itemN c9 17, itemN c9 18] a5 w5 := by
    intro L1 sw' hl1 hok1 hb1 hsw a5 w5 h5
    refine askS hO' rfl hok1 hkey h5 fun b clk' L2 hask hok2 a6 w6 h6 => ?_
    obtain ⟨hp2, hl2⟩ := ask_len hask hh.h1
    refine listS hO' hok2 (by omega) h6 fun Pk hn hs hlen a7 w7 h7 => ?_
    refine sortS hO' hok2 (by omega) hp2 hn hs hlen h7 fun a8 w8 h8 => ?_
    have h9 := outS hO' hok2 (by omega) hp2 h8
    have hpl := ask_plain hok1 hask
    rw [hb1] at hpl
    have e2 : (allowL most sw now key L).2 = bksL L2 := by unfold allowL; rw [hpl]
    have e1 : (allowL most sw now key L).1 = b := by unfold allowL; rw [hpl]
    have e3 : (bksL L2).length = L2.length := by simp [bksL]
    have himp : ∀ e a w, Done Try.prog M O Try.f9 ([⟨rowsL L, gr, es, true⟩] : List AObj).length (fun v os' ns _ => v = .tuple #[.agg #[.int .i64 most, .int .i64 sw', .slice (some ⟨1, 0, some (L2.length * 11)⟩) L2.length L2.length], .bool b] ∧ os' = [⟨rowsL L, gr, es, true⟩] ∧ ns = [⟨rowsL (bksL L2), true, 11, true⟩]) e a w →
        Done Try.prog M O Try.f9 ([⟨rowsL L, gr, es, true⟩] : List AObj).length (fun v os' ns _ => os' = [⟨rowsL L, gr, es, true⟩] ∧ AllowR most sw now L key 1 v ns) e a w := by
      rintro e a w ⟨he, s, nm, g, v, os', ns, hat, hf, h1, h2, h3⟩
      refine ⟨he, s, nm, g, v, os', ns, hat, hf, h2, .inr ⟨hvalid, ?_, ?_⟩⟩
      · rw [h1, e1, e2, e3, hsw]
      · rw [h3, e2]
    exact wpL_mono himp h9
  by_cases hsw : IntKind.i64.wrap (now - sw) > 1000000000
  · show wpL Try.prog _ ([itemN c9 2, itemN c9 3, itemN c9 4, itemN c9 5] ++ (.cond (.tmp 34) sw9 .skip :: [itemN c9 7, itemN c9 8, itemN c9 9, .cond (.tmp 58) u9 v9, itemN c9 11, itemN c9 12, .block 2 (.loop m9), itemN c9 14, itemN c9 15, .block 4 (.loop g9), itemN c9 17, itemN c9 18])) a4 w4
    refine h4'.items (ovS_ok shT _ _) nilC mix (fun c _ => hooksOk_nil c) (fun z => headtrueS M (rowsL L) gr es L.length c mb most sw now key z) (held_one (decide_eq_true hsw)) rfl (fun _ a5 w5 h5 => ?_) fun hne => absurd rfl hne
    have e1 : a5.eval (.tmp 34) = .bool true := h5.eval (fun z => by kernel_rfl) rfl
    have h6 := h5.live (live' := [2, 3, 4, 6, 8, 9]) (V' := vAS mb now []) (fun z => by kernel_rfl)
    refine wp_cond_true e1 (sweepS hO' hok h6 fun a6 w6 h7 => fin _ now (List.length_filter_le _ _) (hok.filter _) ?_ ?_ a6 w6 h7)
    · unfold sweepB
      rw [if_pos hsw, ← hbs]
      simp only [bksL]
      rw [List.filter_map]
      rfl
    · unfold swB; rw [if_pos hsw]
  · show wpL Try.prog _ ([itemN c9 2, itemN c9 3, itemN c9 4, itemN c9 5] ++ (.cond (.tmp 34) sw9 .skip :: [itemN c9 7, itemN c9 8, itemN c9 9, .cond (.tmp 58) u9 v9, itemN c9 11, itemN c9 12, .block 2 (.loop m9), itemN c9 14, itemN c9 15, .block 4 (.loop g9), itemN c9 17, itemN c9 18])) a4 w4
    refine h4'.items (ovS_ok shT _ _) nilC mix (fun c _ => hooksOk_nil c) (fun z => headfalseS M (rowsL L) gr es L.length c mb most sw now key z) (held_one (decide_eq_false hsw)) rfl (fun _ a5 w5 h5 => ?_) fun hne => absurd rfl hne
    have e1 : a5.eval (.tmp 34) = .bool false := h5.eval (fun z => by kernel_rfl) rfl
    have h6 := h5.live (live' := [2, 3, 4, 6, 8, 9]) (V' := vAS mb now []) (fun z => by kernel_rfl)
    refine wp_cond_false e1 (wp_skip (fin Ls sw (Nat.le_refl _) hok ?_ ?_ a5 w5 h6))
    · unfold sweepB; rw [if_neg hsw, ← hbs]; rfl
    · unfold swB; rw [if_neg hsw]
end Go.Proofs.Ytfkdcpinajnbfaa
