/- Entries sorted by their numbers: the list of pointers behind slices.SortFunc.
   Conditions: the entries lie in other blocks than the list. -/
import Derived.Test.YtfkdcpinajnbfaaCmp
import Derived.Test.YtfkdcpinajnbfaaAbD
open Go.Ab
set_option linter.unusedVariables false
set_option linter.unusedSimpArgs false
namespace Go.Proofs.Ytfkdcpinajnbfaa
open Go.Shelf Go.RowKit Go.Lib Go.Sort

/-- Two lists of entries in strict order, one within the other and no shorter: they are one. -/
theorem sorted_same : ∀ {L F : List Ent}, (L.Pairwise fun x y => x.num < y.num) → (F.Pairwise fun x y => x.num < y.num) → (∀ e ∈ F, e ∈ L) → L.length ≤ F.length → F = L := by
  intro L
  induction L with
  | nil => intro F _ _ h _; cases F with
    | nil => rfl
    | cons f F => exact absurd (h f (by simp)) (by simp)
  | cons a L ih =>
    intro F hL hF h hl
    obtain ⟨h1, h2⟩ := List.pairwise_cons.1 hL
    cases F with
    | nil => simp at hl
    | cons f F =>
      obtain ⟨h3, h4⟩ := List.pairwise_cons.1 hF
      by_cases hfa : f = a
      · subst hfa
        rw [ih h2 h4 (fun e he => by
          rcases List.mem_cons.1 (h e (by simp [he])) with rfl | hx
          · have := h3 e he; omega
          · exact hx) (by simpa using hl)]
      · exfalso
        have hf : f ∈ L := by
          rcases List.mem_cons.1 (h f (by simp)) with hx | hx
          · exact absurd hx hfa
          · exact hx
        have hlt := h1 f hf
        have hall : ∀ x ∈ (f :: F).map (·.num), x ∈ L.map (·.num) := fun x hx => by
          obtain ⟨e, he, rfl⟩ := List.mem_map.1 hx
          rcases List.mem_cons.1 (h e he) with rfl | hx
          · rcases List.mem_cons.1 he with rfl | he
            · exact absurd rfl hfa
            · have := h3 e he; omega
          · exact List.mem_map.2 ⟨e, hx, rfl⟩
        have := sub_len (nums_nodup hF) hall
        simp at this hl
        omega

section
variable {Pk : List Ent}
abbrev ElP (Pk : List Ent) := {e : Ent // e ∈ Pk}
def encP (x : ElP Pk) : Value := ptrE x.1
def cfP (x y : ElP Pk) : Int := Lib.compareInt x.1.num y.1.num
def dP (Pk : List Ent) : Array (ElP Pk) := Pk.attach.toArray

theorem ltP (x y : ElP Pk) : ltOf cfP x y = decide (x.1.num < y.1.num) := by
  unfold ltOf cfP Lib.compareInt
  by_cases h1 : x.1.num < y.1.num
  · have : (x.1.num : Int) < y.1.num := by omega
    simp [h1, this]
  · have : ¬ (x.1.num : Int) < y.1.num := by omega
    by_cases h2 : (y.1.num : Int) < x.1.num
    · simp [h1, this, h2]
    · simp [h1, this, h2]
theorem swoP : SWO (ltOf (cfP (Pk := Pk))) where
  irrefl x := by rw [ltP]; simp
  trans x y z h1 h2 := by rw [ltP] at *; simp at *; omega
  ntrans x y z h1 h2 := by rw [ltP] at *; simp at *; omega
theorem dP_size : (dP Pk).size = Pk.length := by simp [dP]
theorem dP_map : (dP Pk).toList.map (·.1) = Pk := by simp [dP]

theorem oneP : OneCell (encP (Pk := Pk)) := fun _ => rfl

theorem cmpP [Inhabited (ElP Pk)] {w : World} {blk size : Nat} (hne : ∀ e ∈ Pk, e.blk ≠ blk) (hc : ∀ e ∈ Pk, (GO.cells (ec e.b e.num)).ok (w.heap[e.blk]?)) : CmpReads Try.prog 21 #[] (encP (Pk := Pk)) cfP blk 0 size w := fun m os dk hs x y => by
  have cell : ∀ x : ElP Pk, (sortWorld encP w blk 0 m dk os).cell? ⟨x.1.blk, 11, none⟩ = some (.int .i64 x.1.num) := fun x => by
    obtain ⟨_, cs, t, fz, h1, h2, _, _, h5⟩ := hc x.1 x.2
    have hlt := heap_lt h1
    unfold sortWorld
    rw [cell?_grow _ _ _ (by simpa [putRow, mapBlock, Sort.ahead] using hlt), cell?_putRow_other _ _ _ _ _ _ (.inl (hne x.1 x.2))]
    have : (Sort.ahead w m).heap[x.1.blk]? = w.heap[x.1.blk]? := rfl
    simp only [World.cell?, this, h1]
    exact h5 11 (.int .i64 x.1.num) rfl
  exact closure21 x.1.blk y.1.blk x.1.num y.1.num _ (cell x) (cell y)

/-- What the sort leaves. -/
theorem sortP {L : List Ent} (hL : L.Pairwise fun x y => x.num < y.num) (hn : (Pk.map (·.num)).Nodup) (hs : ∀ e ∈ Pk, e ∈ L) (hlen : Pk.length = L.length) [Inhabited (ElP Pk)] {d' : Array (ElP Pk)} (hp : PermIn 0 (dP Pk).size (dP Pk) d') (ho : SortedIn (ltOf cfP) 0 (dP Pk).size d') :
    d'.toList.map (·.1) = L := by
  obtain ⟨h1, _, h3⟩ := hp
  have h3 : d'.toList.Perm (dP Pk).toList := by
    have e1 : d'.extract 0 (dP Pk).size = d' := by rw [← h1]; simp
    have e2 : (dP Pk).extract 0 (dP Pk).size = dP Pk := by simp
    rwa [e1, e2] at h3
  have hperm : (d'.toList.map (·.1)).Perm Pk := by
    have := h3.map (·.1)
    rwa [dP_map] at this
  have hnod : ((d'.toList.map (·.1)).map (·.num)).Nodup := (hperm.map (·.num)).nodup_iff.2 hn
  refine sorted_same hL ?_ (fun e he => hs e (hperm.mem_iff.1 he)) (by rw [hperm.length_eq]; omega)
  rw [List.pairwise_iff_getElem]
  intro i j hi hj hij
  simp only [List.length_map, Array.length_toList] at hi hj
  have hso := ho i j (Nat.zero_le _) hij (by omega)
  rw [ltP, decide_eq_false_iff_not, getElem!_pos d' j hj, getElem!_pos d' i hi] at hso
  have hne : d'[i].1.num ≠ d'[j].1.num := fun he => by
    have hne := (List.nodup_iff_pairwise_ne.1 hnod)
    rw [List.pairwise_iff_getElem] at hne
    exact hne i j (by simpa using hi) (by simpa using hj) hij (by simpa using he)
  simp only [List.getElem_map, Array.getElem_toList]
  omega
end
end Go.Proofs.Ytfkdcpinajnbfaa
