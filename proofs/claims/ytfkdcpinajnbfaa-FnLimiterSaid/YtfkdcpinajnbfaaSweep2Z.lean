/- The limiter's Allow: the sweep (variant Z).
   Conditions: keys of bytes. -/
import Derived.Test.YtfkdcpinajnbfaaSweepZ
open Go.Ab
set_option linter.unusedVariables false
set_option linter.unusedSimpArgs false
namespace Go.Proofs.Ytfkdcpinajnbfaa
open Go.ChangeMaps (setBlock)
set_option maxRecDepth 100000
section
variable {M : Mem} {O : Org}  {mb clk : Nat} {most sw now : Int} {key : Key}

theorem sweepZ (hO : O.h = []) {Ls : List Ent} (hok : MapOk mb clk Ls) {a : Go.Act} {w : World}
    (h : AtV M O N9 [2, 3, 4, 6, 8, 9] (vAZ mb now []) (hAZ  most sw sw key) [] (gMap mb clk Ls) a w) {Q : Exit → Go.Act → World → Prop} {rest : List Code}
    (k1 : ∀ a1 w1, AtV M O N9 [2, 3, 4, 6, 8, 9] (vAZ mb now []) (hAZ  most sw now key) [] (gMap mb clk (Ls.filter fun e => !idle now e)) a1 w1 → wpL Try.prog Q rest a1 w1) :
    sw9.wp Try.prog (Exit.then (wpL Try.prog Q rest) Q) a w := by
  refine wp_items sw9 ?_
  rw [itemsSw]
  show (itemN sw9 0).wp Try.prog (Exit.then (wpL Try.prog _ [.block 0 (.loop l9), itemN sw9 2]) _) a w
  refine wp_rgn rng6_f rng6_r ?_
  refine h.ops (K := fnsC []) (cl := fun l => l) (fnsC_sound nilC) (fun z => r6Z M  mb most sw now key z) rfl fun a1 w1 h1 => ?_
  have hw := (h1.known (b := mb) (x := .obj (mapO Ls clk)) (.inl ⟨rfl, rfl⟩)).1
  have e1 : a1.eval (.tmp 35) = .map (some mb) := h1.eval (fun z => by kernel_rfl) rfl
  refine wpOps_value rng6_o rng6_g (ex_range rng6_p (by rw [e1]; exact run_rangeM hw)) ?_
  rw [rng6_d]
  have hlt : ∀ b x, gMap mb clk Ls b x → b ≠ w1.heap.size := fun b x hx hb => by
    obtain ⟨p, hp⟩ := GO.there (h1.known hx).1
    have := heap_lt hp
    omega
  have hit : w1.heap.size ≠ mb ∧ ∀ e ∈ Ls, w1.heap.size ≠ e.blk := ⟨fun hm => hlt mb _ (.inl ⟨rfl, rfl⟩) hm.symm, fun e he hm => hlt e.blk _ (.inr ⟨e, he, rfl, rfl⟩) hm.symm⟩
  have h2 := (h1.alloc (g' := gIt mb clk Ls w1.heap.size []) (itO mb clk []) (fun b x hx => by
    rcases hx with hx | hx
    · exact .inl hx
    · exact .inr hx)).put (some 36) (v := .pointer (some ⟨w1.heap.size, 0, none⟩)) rfl (fun z => put36Z mb now z _)
  have I0 : SwIZ M O  mb clk w1.heap.size most sw now key Ls [] _ _ := ⟨List.nodup_nil, fun s hs => (by cases hs), by rw [keep_nil]; exact h2⟩
  refine wpL_cons (R := fun a2 w2 => ∃ S, (∀ e ∈ Ls, e.num ∈ S) ∧ AtV M O N9 [2, 3, 4, 6, 8, 9, 36] (vAZ mb now [.pointer (some ⟨w1.heap.size, 0, none⟩)]) (hAZ  most sw sw key) [] (gIt mb clk (Ls.filter (keepE now S)) w1.heap.size S) a2 w2)
    (wp_block (wp_loop_idx (fun j a2 w2 => ∃ S, S.length = j ∧ SwIZ M O  mb clk w1.heap.size most sw now key Ls S a2 w2) Ls.length ⟨[], rfl, I0⟩ ?_ ?_)) ?_
  · rintro j a2 w2 hj ⟨S, hS, I⟩
    obtain ⟨s, hs1, hs2⟩ := some_out (S := S) (nums_nodup hok.nums) (by rw [List.length_map]; omega)
    refine wp_items l9 ?_
    rw [itemsL9]
    refine stepZ hok hit I (fun e he hes a3 w3 h3 => ?_) fun hall a3 w3 h3 => ?_
    · refine wpL_cons (r := []) (R := fun a4 w4 => ∃ S', S'.length = j + 1 ∧ SwIZ M O  mb clk w1.heap.size most sw now key Ls S' a4 w4) (wp_block_items (strikeZ hO hok hit he hes h3 fun a4 w4 h4 => ⟨rfl, S ++ [e.num], by simp [hS], ?_, ?_, h4⟩)) fun a4 w4 h4 => ⟨rfl, h4⟩
      · exact List.nodup_append.2 ⟨I.nod, by simp, fun x hx y hy => by simp at hy; subst hy; exact fun hxy => hes (hxy ▸ hx)⟩
      · intro s hs
        rcases List.mem_append.1 hs with hs | hs
        · exact I.sub s hs
        · simp at hs; subst hs; exact List.mem_map.2 ⟨e, he, rfl⟩
    · obtain ⟨e, he, rfl⟩ := List.mem_map.1 hs1
      exact absurd (hall e he) hs2
  · rintro a2 w2 ⟨S, hS, I⟩
    have hall := all_in (N := Ls.map (·.num)) I.nod I.sub (by rw [List.length_map]; omega)
    refine wp_items l9 ?_
    rw [itemsL9]
    refine stepZ hok hit I (fun e he hes => absurd (hall _ (List.mem_map.2 ⟨e, he, rfl⟩)) hes) fun h5 a3 w3 h3 => ⟨by simp, rfl, S, h5, h3⟩
  · rintro a2 w2 ⟨S, hall, h3⟩
    rw [keep_all now hall] at h3
    show wpL Try.prog _ ([itemN sw9 2] ++ []) a2 w2
    exact h3.items (ovS_ok shT _ _) nilC mix (fun c _ => hooksOk_nil c) (fun z => r11Z M  mb most sw now key z w1.heap.size) (fun x hx => by cases hx) rfl (fun _ a4 w4 h4 => k1 a4 w4 (h4.weaken fun b x hx => .inl hx)) fun hne => absurd rfl hne
end
end Go.Proofs.Ytfkdcpinajnbfaa
