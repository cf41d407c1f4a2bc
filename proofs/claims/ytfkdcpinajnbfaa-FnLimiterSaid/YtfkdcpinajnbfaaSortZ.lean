/- The limiter's Allow: the listed entries are sorted by their numbers (variant Z).
   Conditions: keys of bytes. -/
import Derived.Test.YtfkdcpinajnbfaaListZ
import Derived.Test.YtfkdcpinajnbfaaSortP
open Go.Ab
set_option linter.unusedVariables false
set_option linter.unusedSimpArgs false
namespace Go.Proofs.Ytfkdcpinajnbfaa
open Go.Shelf Go.RowKit Go.Lib Go.Sort
set_option maxRecDepth 100000
section
variable {M : Mem} {O : Org}  {mb clk : Nat} {most sw sw' now : Int} {key : Key} {b : Bool}

set_option maxHeartbeats 1000000 in
theorem sortZ (hO : O.h = []) {L : List Ent} (hok : MapOk mb clk L) (hm : L.length ≤ 4097) (hpos : 0 < L.length) {Pk : List Ent} (hn : (Pk.map (·.num)).Nodup) (hs : ∀ e ∈ Pk, e ∈ L) (hlen : Pk.length = L.length) {a : Go.Act} {w : World} {Q : Exit → Go.Act → World → Prop} {rest : List Code}
    (h : AtV M O N9 [2, 3, 4, 6, 8, 9, 12, 14] (vAZ mb now [.bool b, .slice (some ⟨4, 0, some L.length⟩) L.length L.length]) (hLZ  most sw sw' key (Pk.map ptrE)) [] (gMap mb clk L) a w)
    (k1 : ∀ a1 w1, AtV M O N9 [2, 3, 4, 6, 8, 9, 12, 14] (vAZ mb now [.bool b, .slice (some ⟨4, 0, some L.length⟩) L.length L.length]) (hLZ  most sw sw' key (L.map ptrE)) [] (gMap mb clk L) a1 w1 → wpL Try.prog Q rest a1 w1) :
    wpL Try.prog Q (itemN c9 14 :: rest) a w := by
  show (itemN c9 14).wp Try.prog (Exit.then (wpL Try.prog Q rest) Q) a w
  refine wp_rgn so28_f so28_r ?_
  refine h.ops (K := fnsC []) (cl := fun l => l) (fnsC_sound nilC) (fun z => r28Z M  mb most sw now key z sw' b (Pk.map ptrE) L.length L.length) rfl fun a1 w1 h1 => ?_
  have hst : ∀ j oj, hget O.h j = some oj → ∃ o', hget (hLZ  most sw sw' key (Pk.map ptrE)) j = some o' ∧ o'.cells.length = oj.cells.length := fun j oj hj => by
    rw [hO] at hj
    match j, hj with
    | 0, hj => cases hj
    | j + 1, hj => cases hj
  obtain ⟨blk, h2, hbase, hblt, hfree⟩ := h1.name (i := 4) (o := ⟨Pk.map ptrE, true, 1, true⟩) rfl (by rw [hO]; rfl) hst
  obtain ⟨cap', hcap, e1⟩ := h2.sliceAt (i := 4) (b := blk) (x := .tmp 131) (n := L.length) (len := L.length) (cap := L.length) (by simp) rfl (by simp [hlen]) hpos (fun z => by kernel_rfl)
  have e2 : a1.eval (.func 21) = .func (.func 21) #[] #[] := h2.eval (fun z => by kernel_rfl) rfl
  have e3 : a1.eval (.func 20) = .func (.func 20) #[] #[] := h2.eval (fun z => by kernel_rfl) rfl
  have hen : Go.Ab.Enters Try.prog 20 := ⟨_, Try.func20, by kernel_rfl, by kernel_rfl⟩
  have hex := execOp_call so28_p e3 hen w1
  have hargs : (#[] ++ (#[Operand.tmp 131, Operand.func 21] : Array Operand).map a1.eval ++ #[] : Array Value) = #[.slice (some ⟨blk, 0, none⟩) (dP Pk).size cap', .func (.func 21) #[] #[]] := by
    simp [e1, e2, dP_size, hlen]
  rw [hargs] at hex
  haveI : Inhabited (ElP Pk) := ⟨⟨Pk[0]'(by omega), List.getElem_mem _⟩⟩
  have hcells := h2.asCells (i := 4) (b := blk) (o := ⟨Pk.map ptrE, true, 1, true⟩) (by simp) rfl rfl
  obtain ⟨hgr, cs, t, fz, hblk, hcl, hfr, hone, hcs⟩ := hcells
  have hent : ∀ e ∈ Pk, (GO.cells (ec e.b e.num)).ok (w1.heap[e.blk]?) := fun e he => (h2.known (b := e.blk) (x := .cells (ec e.b e.num)) (.inr ⟨e, hs e he, rfl, rfl⟩)).1
  have hne : ∀ e ∈ Pk, e.blk ≠ blk := fun e he hb => hfree (.cells (ec e.b e.num)) (by rw [← hb]; exact Or.inr ⟨e, hs e he, rfl, rfl⟩)
  have hH : Holds (encP (Pk := Pk)) w1 blk 0 (dP Pk) := fun j hj => by
    rw [dP_size] at hj
    have hjl : j < (Pk.map ptrE).length := by simpa using hj
    have hcj := hcs j _ (List.getElem?_eq_getElem hjl)
    have hd : encP (dP Pk)[j]! = (Pk.map ptrE)[j] := by
      rw [getElem!_pos (dP Pk) j (by rw [dP_size]; exact hj)]
      simp [encP, dP, ptrE]
    refine ⟨?_, ?_⟩
    · simp only [World.cell?, hblk, Nat.zero_add, hd]
      exact hcj
    · have := hfr j (by have := (Array.getElem?_eq_some_iff.1 hcj).1; exact this)
      simp only [World.frozen?, hblk, Nat.zero_add]
      obtain ⟨f1, f2⟩ := fz
      simpa using this
  have hcall := Any.slices_SortFunc Try.sortL (encP (Pk := Pk)) oneP cfP swoP 21 #[] blk 0 cap' (dP Pk) w1 (enters_of Try.func21 (by kernel_rfl) rfl) (cmpP hne hent).lays hH hblt (by rw [dP_size]; omega)
  refine wpOps_enter so28_o so28_g hex (hcall.mono ?_)
  rintro ee w' ⟨rfl, d', nn, os, hp, ho, rfl⟩
  refine ⟨_, rfl, ?_⟩
  rw [so28_d]
  have hF := sortP hok.nums hn hs hlen hp ho
  have hsz : d'.size = (dP Pk).size := hp.1
  have hd'l : (L.map ptrE).length = (Pk.map ptrE).length := by simp [hlen]
  have h3 := h2.turn (w' := sortWorld encP w1 blk 0 nn d' os) (i := 4) (b := blk) (o := ⟨Pk.map ptrE, true, 1, true⟩) (by simp) hbase rfl (by rw [hO]; rfl) (l := L.map ptrE) hd'l
    ((groundL_iff _).2 fun v hv => by obtain ⟨e, _, rfl⟩ := List.mem_map.1 hv; rfl) rfl rfl rfl (by unfold sortWorld; simp [grow, putRow, mapBlock, Sort.ahead])
    (fun b' hb' hne' => by
      unfold sortWorld
      rw [heap_grow_old _ _ (by simpa [putRow, mapBlock, Sort.ahead] using hb')]
      simp only [putRow, mapBlock, Sort.ahead, Array.getElem?_modify]
      rw [if_neg (Ne.symm hne')])
    (fun cs t fz hcs hone hle => by
      refine ⟨putCells encP 0 d' cs, ?_, by simp [putCells], fun j v hv => ?_, fun j u hu => ?_⟩
      · unfold sortWorld
        rw [heap_grow_old _ _ (by simpa [putRow, mapBlock, Sort.ahead] using hblt)]
        simp only [putRow, mapBlock, Sort.ahead, Array.getElem?_modify, if_true, hcs]
        rfl
      · simp only [putCells, Array.getElem?_mapIdx] at hv
        cases hc : cs[j]? with
        | none => rw [hc] at hv; cases hv
        | some y =>
          rw [hc] at hv
          simp only [Option.map_some, Option.some.injEq] at hv
          split at hv
          · rw [← hv]; rfl
          · rw [← hv]; exact hone j y hc
      · have hjl : j < L.length := by have := (List.getElem?_eq_some_iff.1 hu).1; simpa using this
        have hjc : j < cs.size := by have : (L.map ptrE).length ≤ cs.size := hle; simp at this; omega
        have hjd : j < d'.size := by rw [hsz, dP_size]; omega
        simp only [putCells, Array.getElem?_mapIdx, Array.getElem?_eq_getElem hjc, Option.map_some, Nat.zero_add, Nat.zero_le, true_and, hjd, if_true, Nat.sub_zero]
        rw [← hu, ← hF, getElem!_pos d' j hjd]
        simp [hjd, encP, ptrE])
  have h4 := (h3.put (some 132) (v := .tuple #[]) rfl (live' := [2, 3, 4, 6, 8, 9, 12, 14]) (V' := vAZ mb now [.bool b, .slice (some ⟨4, 0, some L.length⟩) L.length L.length]) (fun z => by kernel_rfl))
  obtain ⟨z, m, h4⟩ := h4
  exact k1 _ _ ⟨z, m, h4.r0, h4.tr, h4.t, h4.d, fun p hp => (by cases hp), h4.g⟩
end
end Go.Proofs.Ytfkdcpinajnbfaa
