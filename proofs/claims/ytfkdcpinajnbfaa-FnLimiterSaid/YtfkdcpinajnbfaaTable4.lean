/- The method table of the limiter, of no buckets at all.
   Conditions: none. -/
import Derived.Test.YtfkdcpinajnbfaaTable3
open Go.Ab
set_option linter.unusedVariables false
set_option linter.unusedSimpArgs false
namespace Go.Proofs.Ytfkdcpinajnbfaa
set_option maxRecDepth 100000

theorem tableZ {M : Mem} {most sw now : Int} :
    ACallsG Try.prog M 19 [.agg #[.int .i64 most, .int .i64 sw, .slice none 0 0], .int .i64 now] [] fun v os' ns g => os' = [] ∧ ns = [] ∧ TabR most sw now [] v g := by
  refine acallsG_of_at Try.func19 body19 fun O a w hO hat => ?_
  refine wp_items c19 ?_
  rw [items19]
  show wpL Try.prog _ ([itemN c19 0, itemN c19 1, itemN c19 2] ++ [itemN c19 3, itemN c19 4, .block 0 (.loop b19), itemN c19 6, itemN c19 7]) a w
  rcases head_cases most sw now 0 with hh | ⟨j, hj, hbad⟩
  rotate_left
  · refine hat.items (ovS_ok shT _ _) nilC mix (fun c _ => hooksOk_nil c) (badZ M most sw now j hj) hbad rfl (fun he => by cases he) fun _ a1 w1 h1 => ?_
    obtain ⟨z, h1⟩ := h1
    exact ⟨.inr rfl, _, _, _, .map none, [], [], h1, by kernel_rfl, rfl, rfl, .inl ⟨rfl, fun h => bad_not hj hbad h.1⟩⟩
  refine hat.items (ovS_ok shT _ _) nilC mix (fun c _ => hooksOk_nil c) (headZ M most sw now) (head_held hh) rfl (fun _ a1 w1 h1 => ?_) fun hne => absurd rfl hne
  show (itemN c19 3).wp Try.prog (Exit.then (wpL Try.prog _ [itemN c19 4, .block 0 (.loop b19), itemN c19 6, itemN c19 7]) _) a1 w1
  refine wp_rgn region33 range33 ?_
  refine h1.ops (K := fnsC []) (cl := fun l => l) (fnsC_sound nilC) (fun z => lenZ M most sw now z) rfl fun a2 w2 h2 => ?_
  have e1 : a2.eval (.tmp 41) = .int .i64 0 := h2.eval (fun z => by kernel_rfl) rfl
  refine wpOps_value op33 op33g (ex_makeMap op33o (by simp only [Option.map_some]; rw [e1]; exact run_make51 w2)) ?_
  rw [op33d]
  have h3 := (h2.alloc (g' := gMap w2.heap.size 0 []) (.map #[] 0) (fun b x hx => by
    rcases hx with ⟨h, h'⟩ | ⟨e, he, _⟩
    · exact .inr ⟨h, h'⟩
    · cases he)).put (some 42) (v := .map (some w2.heap.size)) rfl (fun z => putZ now z _)
  refine h3.ops (K := fnsC []) (cl := fun l => l) (fnsC_sound nilC) (fun z => asgZ M w2.heap.size most sw now z) rfl fun a3 w3 h4 => ?_
  show wpL Try.prog _ ([itemN c19 4] ++ [.block 0 (.loop b19), itemN c19 6, itemN c19 7]) a3 w3
  refine h4.items (ovS_ok shT _ _) nilC mix (fun c _ => hooksOk_nil c) (fun z => rngZ M w2.heap.size most sw now z) (fun x hx => by cases hx) rfl (fun _ a4 w4 h5 => ?_) fun hne => absurd rfl hne
  refine wpL_cons (R := fun a1 w1 => AtV M O N19 [1, 2, 4, 5, 44, 45, 46] (wZ w2.heap.size now [.slice none 0 0, .int .i64 0, .int .i64 0]) (hZ most sw) [] (gMap w2.heap.size 0 []) a1 w1) (wp_block (wp_loop_idx (fun k a1 w1 => AtV M O N19 [1, 2, 4, 5, 44, 45, 46] (wZ w2.heap.size now [.slice none 0 0, .int .i64 0, .int .i64 0]) (hZ most sw) [] (gMap w2.heap.size 0 []) a1 w1) 0 h5 (fun k a1 w1 hk => by omega) ?_)) ?_
  · intro a1 w1 h6
    refine wp_items b19 ?_
    rw [itemsB19]
    show wpL Try.prog _ ([itemN b19 0, itemN b19 1] ++ [.block 1 d19, itemN b19 3]) a1 w1
    refine h6.items (ovS_ok shT _ _) nilC mix (fun c _ => hooksOk_nil c) (fun z => exZ M w2.heap.size most sw now z) (fun x hx => by cases hx) rfl (fun he => by cases he) fun _ a5 w5 h7 => ?_
    exact ⟨by simp [AExit.to], rfl, h7⟩
  · intro a1 w1 h6
    show wpL Try.prog _ ([itemN c19 6, itemN c19 7] ++ []) a1 w1
    refine h6.items (ovS_ok shT _ _) nilC mix (fun c _ => hooksOk_nil c) (fun z => endZ M w2.heap.size most sw now z) (fun x hx => by cases hx) rfl (fun he => by cases he) fun _ a2 w3 h8 => ?_
    obtain ⟨z, h8⟩ := h8
    exact ⟨.inr rfl, _, _, _, .map (some w2.heap.size), [], [], h8, by kernel_rfl, rfl, rfl, .inr ⟨w2.heap.size, [], rfl, hh, ⟨fun b hb => (by cases hb), List.Pairwise.nil⟩, rfl, rfl, ⟨fun e he => (by cases he), List.Pairwise.nil, by simp, List.Pairwise.nil, fun e he => (by cases he)⟩, rfl⟩⟩
end Go.Proofs.Ytfkdcpinajnbfaa
