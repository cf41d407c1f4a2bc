/- an abstract interpreter for the model's code is sound: calls, statements, code; and how a law's statement follows.
   Conditions: none. -/
import Derived.Test.YtjdckgnpocnifaaAbA
import Derived.Laws.BytesArg
import Derived.Lib.ConvBytes
import Derived.Carry
import Derived.RowKit
import Derived.OpenShut
import Derived.Handed
import Derived.KernelRfl
import Derived.Lib.BytesEntry
import Derived.Laws.Externs
import Derived.Sort.Walk0
import Derived.ChangeSlices
import Derived.ChangeOld
import Derived.LaidLaws
import Derived.MakeChecks
import Derived.LaidMore
import Derived.Stop.Joined
set_option linter.unusedVariables false
set_option linter.unusedSimpArgs false
namespace Go.Ab

mutual
def renV (σ : Nat → Option Nat) : Value → Option Value
  | .pointer (some a) => match a.spot with
    | none => some (.pointer (some a))
    | some sz => match σ a.block with
      | some i => some (.pointer (some ⟨i, a.off, some sz⟩))
      | none => none
  | .slice (some a) n c => match a.spot with
    | none => some (.slice (some a) n c)
    | some sz => match σ a.block with
      | some i => some (.slice (some ⟨i, a.off, some sz⟩) n c)
      | none => none
  | .func fn x y => match renA σ x, renA σ y with
    | some x', some y' => some (.func fn x' y')
    | _, _ => none
  | .iface t v => match renV σ v with
    | some v' => some (.iface t v')
    | none => none
  | .agg cs => match renA σ cs with
    | some cs' => some (.agg cs')
    | none => none
  | .tuple cs => match renA σ cs with
    | some cs' => some (.tuple cs')
    | none => none
  | v => some v
def renA (σ : Nat → Option Nat) : Array Value → Option (Array Value)
  | ⟨l⟩ => match renL σ l with
    | some l' => some ⟨l'⟩
    | none => none
def renL (σ : Nat → Option Nat) : List Value → Option (List Value)
  | [] => some []
  | v :: r => match renV σ v, renL σ r with
    | some v', some r' => some (v' :: r')
    | _, _ => none
end

mutual
theorem renV_ground (σ : Nat → Option Nat) : ∀ (v : Value), ground v = true → renV σ v = some v
  | .pointer (some a), h => by simp only [ground, Option.isNone_iff_eq_none] at h; simp [renV, h]
  | .pointer none, _ => rfl
  | .slice (some a) n c, h => by simp only [ground, Option.isNone_iff_eq_none] at h; simp [renV, h]
  | .slice none _ _, _ => rfl
  | .func fn x y, h => by
    simp only [ground, Bool.and_eq_true] at h
    simp [renV, renA_ground σ x h.1, renA_ground σ y h.2]
  | .iface t v, h => by simp [renV, renV_ground σ v (by simpa [ground] using h)]
  | .agg cs, h => by simp [renV, renA_ground σ cs (by simpa [ground] using h)]
  | .tuple cs, h => by simp [renV, renA_ground σ cs (by simpa [ground] using h)]
  | .bool _, _ => rfl
  | .int _ _, _ => rfl
  | .float _ _, _ => rfl
  | .complex _ _ _, _ => rfl
  | .string _, _ => rfl
  | .map _, _ => rfl
  | .chan _, _ => rfl
  | .nilFunc, _ => rfl
  | .nilIface, _ => rfl
theorem renA_ground (σ : Nat → Option Nat) : ∀ (x : Array Value), groundA x = true → renA σ x = some x
  | ⟨l⟩, h => by simp [renA, renL_ground σ l (by simpa [groundA] using h)]
theorem renL_ground (σ : Nat → Option Nat) : ∀ (l : List Value), groundL l = true → renL σ l = some l
  | [], _ => rfl
  | v :: r, h => by
    simp only [groundL, Bool.and_eq_true] at h
    simp [renL, renV_ground σ v h.1, renL_ground σ r h.2]
end

theorem renL_get {σ : Nat → Option Nat} : ∀ {l l' : List Value}, renL σ l = some l' → l'.length = l.length ∧ ∀ (i : Nat) v', l'[i]? = some v' → ∃ v, l[i]? = some v ∧ renV σ v = some v' := by
  intro l
  induction l with
  | nil => intro l' h; cases h; exact ⟨rfl, fun i v' h => by simp at h⟩
  | cons u r ih =>
    intro l' h
    simp only [renL] at h
    split at h
    · rename_i u' r' hu hr
      cases h
      obtain ⟨h1, h2⟩ := ih hr
      refine ⟨by simp [h1], fun i v' hv => ?_⟩
      cases i with
      | zero => simp at hv; subst hv; exact ⟨u, rfl, hu⟩
      | succ i => obtain ⟨v, h3, h4⟩ := h2 i v' (by simpa using hv); exact ⟨v, by simpa using h3, h4⟩
    · cases h

theorem renA_list {σ : Nat → Option Nat} {x x' : Array Value} (h : renA σ x = some x') : renL σ x.toList = some x'.toList := by
  cases x with
  | mk l =>
    simp only [renA] at h
    split at h
    · rename_i l' hl; cases h; exact hl
    · cases h

/-- Under the numbers σ the objects of the one memory are those of the other. -/
def Emb (σ : Nat → Option Nat) (m : Pl) (h : AHeap) (m' : Pl) (h' : AHeap) : Prop :=
  ∀ i j o, σ i = some j → hget h i = some o → ∃ o', hget h' j = some o' ∧ o'.grow = o.grow ∧ o'.esz = o.esz ∧ o'.cells.length = o.cells.length ∧ m' j = m i

theorem VRel.ren {σ : Nat → Option Nat} {m m' : Pl} {h h' : AHeap} (e : Emb σ m h m' h') {u v : Value} (hr : VRel m h u v) : ∀ {u' : Value}, renV σ u = some u' → VRel m' h' u' v := by
  have arr : ∀ {x x' y : Array Value}, x.size = y.size → (∀ (i : Nat) u v, x[i]? = some u → y[i]? = some v → ∀ {u'}, renV σ u = some u' → VRel m' h' u' v) → renA σ x = some x' →
      x'.size = y.size ∧ ∀ (i : Nat) u v, x'[i]? = some u → y[i]? = some v → VRel m' h' u v := fun {x x' y} hs ih hx => by
    obtain ⟨h1, h2⟩ := renL_get (renA_list hx)
    refine ⟨by simp at h1; omega, fun i u v hu hv => ?_⟩
    obtain ⟨p, hp, hpr⟩ := h2 i u (by simpa using hu)
    exact ih i p v (by simpa using hp) hv hpr
  induction hr with
  | same hg => intro u' hu; rw [renV_ground σ _ hg] at hu; cases hu; exact .same hg
  | ptr ho hle hv =>
    intro u' hu
    simp only [renV] at hu
    split at hu
    · rename_i j hj
      cases hu
      obtain ⟨o', ho', h1, h2, h3, h4⟩ := e _ _ _ hj ho
      exact .ptr ho' (by omega) fun hs => by rw [h4]; exact hv (by omega)
    · cases hu
  | slc ho hle hc hv =>
    intro u' hu
    simp only [renV] at hu
    split at hu
    · rename_i j hj
      cases hu
      obtain ⟨o', ho', h1, h2, h3, h4⟩ := e _ _ _ hj ho
      exact .slc ho' (by omega) hc fun hs => by rw [h4, h1, h2]; exact hv (by omega)
    · cases hu
  | func hx _ hy _ ihx ihy =>
    intro u' hu
    simp only [renV] at hu
    split at hu
    · rename_i x' y' hx' hy'
      cases hu
      obtain ⟨a1, a2⟩ := arr hx ihx hx'
      obtain ⟨b1, b2⟩ := arr hy ihy hy'
      exact .func a1 a2 b1 b2
    · cases hu
  | iface _ ih =>
    intro u' hu
    simp only [renV] at hu
    split at hu
    · rename_i v' hv'; cases hu; exact .iface (ih hv')
    · cases hu
  | agg hx _ ih =>
    intro u' hu
    simp only [renV] at hu
    split at hu
    · rename_i x' hx'; cases hu; obtain ⟨a1, a2⟩ := arr hx ih hx'; exact .agg a1 a2
    · cases hu
  | tuple hx _ ih =>
    intro u' hu
    simp only [renV] at hu
    split at hu
    · rename_i x' hx'; cases hu; obtain ⟨a1, a2⟩ := arr hx ih hx'; exact .tuple a1 a2
    · cases hu

theorem LRel.ren {σ : Nat → Option Nat} {m m' : Pl} {h h' : AHeap} (e : Emb σ m h m' h') {us vs us' : List Value} (hr : LRel m h us vs) (hu : renL σ us = some us') : LRel m' h' us' vs := by
  obtain ⟨h1, h2⟩ := renL_get hu
  refine ⟨by rw [h1]; exact hr.1, fun i u v hu hv => ?_⟩
  obtain ⟨p, hp, hpr⟩ := h2 i u hu
  exact (hr.2 i p v hp hv).ren e hpr

/-- An object whose cells are renamed (plain data stays as it is). -/
def renO (σ : Nat → Option Nat) (o : AObj) : Option AObj :=
  if o.flat then some o else match renL σ o.cells with
    | some l => some { o with cells := l }
    | none => none

def renOs (σ : Nat → Option Nat) : List AObj → Option (List AObj)
  | [] => some []
  | o :: r => match renO σ o, renOs σ r with
    | some o', some r' => some (o' :: r')
    | _, _ => none

theorem renO_props {σ : Nat → Option Nat} {o o' : AObj} (h : renO σ o = some o') : o'.grow = o.grow ∧ o'.esz = o.esz ∧ o'.flat = o.flat ∧ o'.cells.length = o.cells.length := by
  unfold renO at h
  split at h
  · cases h; exact ⟨rfl, rfl, rfl, rfl⟩
  · split at h
    · rename_i l hl; cases h; exact ⟨rfl, rfl, rfl, (renL_get hl).1⟩
    · cases h

theorem renOs_get {σ : Nat → Option Nat} : ∀ {l l' : List AObj}, renOs σ l = some l' → l'.length = l.length ∧ ∀ (i : Nat) o', l'[i]? = some o' → ∃ o, l[i]? = some o ∧ renO σ o = some o' := by
  intro l
  induction l with
  | nil => intro l' h; cases h; exact ⟨rfl, fun i v' h => by simp at h⟩
  | cons u r ih =>
    intro l' h
    simp only [renOs] at h
    split at h
    · rename_i u' r' hu hr
      cases h
      obtain ⟨h1, h2⟩ := ih hr
      refine ⟨by simp [h1], fun i v' hv => ?_⟩
      cases i with
      | zero => simp at hv; subst hv; exact ⟨u, rfl, hu⟩
      | succ i => obtain ⟨v, h3, h4⟩ := h2 i v' (by simpa using hv); exact ⟨v, by simpa using h3, h4⟩
    · cases h

/-- A renamed object lies where the object lay. -/
theorem ORel.ren {σ : Nat → Option Nat} {m m' : Pl} {h h' : AHeap} (e : Emb σ m h m' h') {w : World} {i j : Nat} {o o' : AObj} {cs : Array Value} {t : TypeId} {fz : Nat × Nat} (x : ORel m h w i o cs t fz) (ho : renO σ o = some o') (hm : m' j = m i) :
    ORel m' h' w j o' cs t fz := by
  have hp := renO_props ho
  refine ⟨by rw [hm]; exact x.blk, by rw [hm]; exact x.size, by rw [hp.2.2.2]; exact x.len, x.free, x.one, fun hf => ?_, fun k u v hu hv => ?_⟩
  · have hf' : o.flat = true := by rw [← hp.2.2.1]; exact hf
    simp only [renO, hf', if_true, Option.some.injEq] at ho
    subst ho
    exact x.flat hf'
  · unfold renO at ho
    split at ho
    · rename_i hf
      cases ho
      have hg := x.flat hf
      exact (x.rel k u v hu hv).ren e (renV_ground σ u (groundL_get hg hu))
    · split at ho
      · rename_i l hl
        cases ho
        obtain ⟨p, hp, hpr⟩ := (renL_get hl).2 k u hu
        exact (x.rel k p v hp hv).ren e hpr
      · cases ho

/-- The contract of a function: with these arguments, and these objects that it can reach, it gives this, leaves them so, with these new ones. -/
def ACalls (P : Program) (M : Mem) (f : FuncId) (args : List Value) (os : List AObj) (v : Value) (os' ns : List AObj) : Prop :=
  os'.length = os.length ∧ ∀ (m : Pl) (w : World) (args' : Array Value), HRel M m (os.map some) w → LRel m (os.map some) args args'.toList →
    Calls P f args' w fun e w' => ∃ v' m', e = .returned v' ∧ Tr M m (os.map some) w m' ((os' ++ ns).map some) w' ∧ VRel m' ((os' ++ ns).map some) v v'

theorem hget_map {l : List AObj} {i : Nat} : hget (l.map some) i = l[i]? := by
  unfold hget
  rw [List.getElem?_map]
  cases l[i]? <;> rfl

/-- Where a number stands in a list of numbers. -/
def idx : List Nat → Nat → Option Nat
  | [], _ => none
  | i :: r, k => if i = k then some 0 else match idx r k with
    | some j => some (j + 1)
    | none => none

theorem idx_get : ∀ {l : List Nat} {k j : Nat}, idx l k = some j → l[j]? = some k := by
  intro l
  induction l with
  | nil => intro k j h; cases h
  | cons i r ih =>
    intro k j h
    simp only [idx] at h
    split at h
    · rename_i he; cases h; simp [he]
    · split at h
      · rename_i j' hj; cases h; simpa using ih hj
      · cases h

theorem idx_none : ∀ {l : List Nat} {k : Nat}, idx l k = none → k ∉ l := by
  intro l
  induction l with
  | nil => intro k h; simp
  | cons i r ih =>
    intro k h
    simp only [idx] at h
    split at h
    · cases h
    · rename_i hne
      split at h
      · cases h
      · rename_i hn
        simp only [List.mem_cons, not_or]
        exact ⟨fun e => hne e.symm, ih hn⟩

theorem idx_of_get : ∀ {l : List Nat}, l.Nodup → ∀ {k j : Nat}, l[j]? = some k → idx l k = some j := by
  intro l
  induction l with
  | nil => intro _ k j h; simp at h
  | cons i r ih =>
    intro hd k j h
    simp only [List.nodup_cons] at hd
    cases j with
    | zero => simp at h; simp [idx, h]
    | succ j =>
      simp only [List.getElem?_cons_succ] at h
      have hne : i ≠ k := fun e => hd.1 (e ▸ List.mem_of_getElem? h)
      simp [idx, hne, ih hd.2 h]

/-- The numbers back: the callee's j is the caller's. -/
def outN (L : List Nat) (b : Nat) (j : Nat) : Option Nat := if j < L.length then L[j]? else some (b + (j - L.length))

theorem scatter_get : ∀ (L : List Nat) (os : List AObj) (h : AHeap), L.Nodup → L.length = os.length → (∀ i ∈ L, i < h.length) → (scatter h L os).length = h.length ∧
    ∀ k, hget (scatter h L os) k = match idx L k with
      | some j => os[j]?
      | none => hget h k := by
  intro L
  induction L with
  | nil => intro os h _ _ _; exact ⟨by cases os <;> rfl, fun k => by cases os <;> rfl⟩
  | cons i r ih =>
    intro os h hd hl hi
    cases os with
    | nil => simp at hl
    | cons o os =>
      simp only [List.nodup_cons] at hd
      have hih := ih os (h.set i (some o)) hd.2 (by simpa using hl) (fun k hk => by rw [List.length_set]; exact hi k (by simp [hk]))
      refine ⟨by simp only [scatter]; rw [hih.1, List.length_set], fun k => ?_⟩
      simp only [scatter]
      rw [hih.2 k]
      simp only [idx]
      by_cases hk : i = k
      · subst hk
        rw [if_pos rfl]
        cases hx : idx r i with
        | some j => exact absurd (List.mem_of_getElem? (idx_get hx)) hd.1
        | none => simp only; rw [hget_set_self (hi i (by simp))]; simp
      · rw [if_neg hk]
        cases hx : idx r k with
        | some j => simp
        | none => simp only; rw [hget_set_ne hk]

theorem place_get : ∀ (ns : List AObj) (h : AHeap) (b : Nat), Room h b ns.length → ∀ k, hget (place h b ns) k = if b ≤ k ∧ k < b + ns.length then ns[k - b]? else hget h k := by
  intro ns
  induction ns with
  | nil => intro h b _ k; rw [if_neg (by simp)]; rfl
  | cons o ns ih =>
    intro h b hr k
    simp only [List.length_cons] at hr
    have hroom : Room (hput h b o) (b + 1) ns.length := by
      refine ⟨?_, fun k hk => ?_⟩
      · have := hr.1
        unfold hput
        split
        · simp; omega
        · simp; omega
      · rw [hget_hput hr.1, if_neg (by omega), show b + 1 + k = b + (k + 1) by omega]
        exact hr.2 (k + 1) (by omega)
    simp only [place]
    rw [ih _ _ hroom k, hget_hput hr.1]
    by_cases h1 : b + 1 ≤ k ∧ k < b + 1 + ns.length
    · rw [if_pos h1, if_pos (by simp; omega), show k - b = (k - (b + 1)) + 1 by omega]; rfl
    · rw [if_neg h1]
      by_cases h2 : k = b
      · subst h2; rw [if_pos rfl, if_pos (by simp)]; simp
      · rw [if_neg h2, if_neg (by simp; omega)]

end Go.Ab

namespace Go.Ab

mutual
theorem renV_back {σ τ : Nat → Option Nat} (hb : ∀ i j, σ i = some j → τ j = some i) : ∀ (v u : Value), renV σ v = some u → renV τ u = some v
  | .pointer (some a), u, h => by
    obtain ⟨blk, off, spot⟩ := a
    simp only [renV] at h
    split at h
    · cases h; rfl
    · split at h
      · rename_i j hj; cases h; simp [renV, hb _ _ hj]
      · cases h
  | .pointer none, u, h => by cases h; rfl
  | .slice (some a) n c, u, h => by
    obtain ⟨blk, off, spot⟩ := a
    simp only [renV] at h
    split at h
    · cases h; rfl
    · split at h
      · rename_i j hj; cases h; simp [renV, hb _ _ hj]
      · cases h
  | .slice none _ _, u, h => by cases h; rfl
  | .func fn x y, u, h => by
    simp only [renV] at h
    split at h
    · rename_i x' y' hx hy; cases h; simp [renV, renA_back hb x _ hx, renA_back hb y _ hy]
    · cases h
  | .iface t v, u, h => by
    simp only [renV] at h
    split at h
    · rename_i v' hv; cases h; simp [renV, renV_back hb v _ hv]
    · cases h
  | .agg cs, u, h => by
    simp only [renV] at h
    split at h
    · rename_i v' hv; cases h; simp [renV, renA_back hb cs _ hv]
    · cases h
  | .tuple cs, u, h => by
    simp only [renV] at h
    split at h
    · rename_i v' hv; cases h; simp [renV, renA_back hb cs _ hv]
    · cases h
  | .bool _, u, h => by cases h; rfl
  | .int _ _, u, h => by cases h; rfl
  | .float _ _, u, h => by cases h; rfl
  | .complex _ _ _, u, h => by cases h; rfl
  | .string _, u, h => by cases h; rfl
  | .map _, u, h => by cases h; rfl
  | .chan _, u, h => by cases h; rfl
  | .nilFunc, u, h => by cases h; rfl
  | .nilIface, u, h => by cases h; rfl
theorem renA_back {σ τ : Nat → Option Nat} (hb : ∀ i j, σ i = some j → τ j = some i) : ∀ (v u : Array Value), renA σ v = some u → renA τ u = some v
  | ⟨l⟩, u, h => by
    simp only [renA] at h
    split at h
    · rename_i l' hl; cases h; simp [renA, renL_back hb l _ hl]
    · cases h
theorem renL_back {σ τ : Nat → Option Nat} (hb : ∀ i j, σ i = some j → τ j = some i) : ∀ (v u : List Value), renL σ v = some u → renL τ u = some v
  | [], u, h => by cases h; rfl
  | v :: r, u, h => by
    simp only [renL] at h
    split at h
    · rename_i v' r' hv hr; cases h; simp [renL, renV_back hb v _ hv, renL_back hb r _ hr]
    · cases h
end

theorem renO_back {σ τ : Nat → Option Nat} (hb : ∀ i j, σ i = some j → τ j = some i) {o o' : AObj} (h : renO σ o = some o') : renO τ o' = some o := by
  unfold renO at h
  split at h
  · rename_i hf; cases h; simp [renO, hf]
  · rename_i hf
    split at h
    · rename_i l hl
      cases h
      have hf' : o.flat = false := by simpa using hf
      simp only [renO, hf', Bool.false_eq_true, if_false, renL_back hb _ _ hl]
      cases o
      simp_all
    · cases h

theorem renOs_back {σ τ : Nat → Option Nat} (hb : ∀ i j, σ i = some j → τ j = some i) : ∀ {l l' : List AObj}, renOs σ l = some l' → renOs τ l' = some l := by
  intro l
  induction l with
  | nil => intro l' h; cases h; rfl
  | cons o r ih =>
    intro l' h
    simp only [renOs] at h
    split at h
    · rename_i o' r' ho hr; cases h; simp [renOs, renO_back hb ho, ih hr]
    · cases h

theorem gather_get : ∀ {L : List Nat} {h : AHeap} {os : List AObj}, gather h L = some os → os.length = L.length ∧ ∀ (j : Nat) i, L[j]? = some i → ∃ o, os[j]? = some o ∧ hget h i = some o := by
  intro L
  induction L with
  | nil => intro h os hg; cases hg; exact ⟨rfl, fun j i hi => by simp at hi⟩
  | cons k r ih =>
    intro h os hg
    simp only [gather] at hg
    split at hg
    · rename_i o os' h1 h2
      cases hg
      obtain ⟨g1, g2⟩ := ih h2
      refine ⟨by simp [g1], fun j i hi => ?_⟩
      cases j with
      | zero => simp at hi; subst hi; exact ⟨o, rfl, h1⟩
      | succ j => obtain ⟨p, hp, hh⟩ := g2 j i (by simpa using hi); exact ⟨p, by simpa using hp, hh⟩
    · cases hg

theorem scatter_same : ∀ {L : List Nat} {h : AHeap} {os : List AObj}, gather h L = some os → scatter h L os = h := by
  intro L
  induction L with
  | nil => intro h os hg; cases hg; rfl
  | cons k r ih =>
    intro h os hg
    simp only [gather] at hg
    split at hg
    · rename_i o os' h1 h2
      cases hg
      simp only [scatter]
      rw [hset_same h1]
      exact ih h2
    · cases hg

/-- The places behind a call. -/
def plBack (m m' : Pl) (L : List Nat) (b n : Nat) : Pl := fun i => match idx L i with
  | some j => m' j
  | none => if b ≤ i ∧ i < b + n then m' (L.length + (i - b)) else m i

set_option maxHeartbeats 1000000 in
theorem graft {M : Mem} {m m' : Pl} {h : AHeap} {w w' : World} {L : List Nat} {b : Nat} {objs lo os' ns og ng : List AObj} (r : HRel M m h w) (hd : L.Nodup) (hg : gather h L = some objs) (hlo : renOs (idx L) objs = some lo)
    (tr : Tr M (fun j => m (L.getD j 0)) (lo.map some) w m' ((os' ++ ns).map some) w') (hlen : os'.length = lo.length) (hog : renOs (outN L b) os' = some og) (hns : renOs (outN L b) ns = some ng)
    (room : Room h b ns.length) :
    Tr M m h w (plBack m m' L b ns.length) (place (scatter h L og) b ng) w' ∧ Emb (outN L b) m' ((os' ++ ns).map some) (plBack m m' L b ns.length) (place (scatter h L og) b ng) := by
  obtain ⟨g1, g2⟩ := gather_get hg
  obtain ⟨l1, l2⟩ := renOs_get hlo
  obtain ⟨o1, o2⟩ := renOs_get hog
  obtain ⟨n1, n2⟩ := renOs_get hns
  have hL : ∀ i ∈ L, ∃ o, hget h i = some o := fun i hi => by
    obtain ⟨j, hj, rfl⟩ := List.getElem_of_mem hi
    obtain ⟨o, _, ho⟩ := g2 j _ (List.getElem?_eq_getElem hj)
    exact ⟨o, ho⟩
  have hLlt : ∀ i ∈ L, i < h.length := fun i hi => by obtain ⟨o, ho⟩ := hL i hi; exact hget_lt ho
  have hsz : L.length = og.length := by omega
  obtain ⟨s1, s2⟩ := scatter_get L og h hd hsz hLlt
  have hroom : Room (scatter h L og) b ng.length := by
    refine ⟨by rw [s1]; exact room.1, fun k hk => ?_⟩
    rw [s2]
    have hn := room.2 k (by omega)
    cases hx : idx L (b + k) with
    | none => exact hn
    | some j =>
      obtain ⟨o, ho⟩ := hL _ (List.mem_of_getElem? (idx_get hx))
      rw [hn] at ho; cases ho
  have hp := place_get ng (scatter h L og) b hroom
  -- the numbers behind the call
  have newNotL : ∀ i, b ≤ i → i < b + ns.length → idx L i = none := fun i h1 h2 => by
    cases hx : idx L i with
    | none => rfl
    | some j =>
      obtain ⟨o, ho⟩ := hL _ (List.mem_of_getElem? (idx_get hx))
      have hn := room.2 (i - b) (by omega)
      rw [show b + (i - b) = i by omega, ho] at hn; cases hn
  have look : ∀ i, hget (place (scatter h L og) b ng) i = match idx L i with
      | some j => og[j]?
      | none => if b ≤ i ∧ i < b + ns.length then ng[i - b]? else hget h i := fun i => by
    rw [hp, s2]
    by_cases hb : b ≤ i ∧ i < b + ng.length
    · rw [if_pos hb, newNotL i hb.1 (by omega)]
      simp only
      rw [if_pos (by omega)]
    · rw [if_neg hb]
      cases hx : idx L i with
      | some j => rfl
      | none => simp only; rw [if_neg (by omega)]
  -- from the callee's number to ours
  have emb : Emb (outN L b) m' ((os' ++ ns).map some) (plBack m m' L b ns.length) (place (scatter h L og) b ng) := fun j i o hj ho => by
    rw [hget_map] at ho
    unfold outN at hj
    split at hj
    · rename_i hlt
      have hix := idx_of_get hd hj
      rw [List.getElem?_append_left (by omega)] at ho
      have hjo : j < og.length := by omega
      obtain ⟨p, hp1, hp2⟩ := o2 j og[j] (List.getElem?_eq_getElem hjo)
      rw [ho] at hp1; cases hp1
      have hpr := renO_props hp2
      refine ⟨og[j], by rw [look, hix]; exact List.getElem?_eq_getElem hjo, hpr.1, hpr.2.1, hpr.2.2.2, by simp [plBack, hix]⟩
    · rename_i hge
      cases hj
      rw [List.getElem?_append_right (by omega)] at ho
      have hjn : j - L.length < ns.length := by have := (List.getElem?_eq_some_iff.1 ho).1; omega
      have hjn' : j - L.length < ng.length := by omega
      obtain ⟨p, hp1, hp2⟩ := n2 (j - L.length) ng[j - L.length] (List.getElem?_eq_getElem hjn')
      rw [show j - os'.length = j - L.length by omega] at ho
      rw [ho] at hp1; cases hp1
      have hpr := renO_props hp2
      have hnl := newNotL (b + (j - L.length)) (by omega) (by omega)
      refine ⟨ng[j - L.length], ?_, hpr.1, hpr.2.1, hpr.2.2.2, ?_⟩
      · rw [look, hnl]
        simp only
        rw [if_pos (by omega), Nat.add_sub_cancel_left]
        exact List.getElem?_eq_getElem hjn'
      · simp only [plBack, hnl]
        rw [if_pos (by omega), Nat.add_sub_cancel_left, show L.length + (j - L.length) = j by omega]
  -- of each live number: the callee's, or an old one that the callee doesn't reach
  have kind : ∀ i p, hget (place (scatter h L og) b ng) i = some p →
      (∃ j q, ((os' ++ ns).map some)[j]? = some (some q) ∧ renO (outN L b) q = some p ∧ outN L b j = some i ∧ plBack m m' L b ns.length i = m' j) ∨
      (idx L i = none ∧ hget h i = some p ∧ plBack m m' L b ns.length i = m i) := fun i p hi => by
    rw [look] at hi
    cases hx : idx L i with
    | some j =>
      simp only [hx] at hi
      obtain ⟨q, hq1, hq2⟩ := o2 j p hi
      have hjl : j < L.length := (List.getElem?_eq_some_iff.1 (idx_get hx)).1
      refine .inl ⟨j, q, ?_, hq2, ?_, by simp [plBack, hx]⟩
      · rw [List.getElem?_map, List.getElem?_append_left (by have := (List.getElem?_eq_some_iff.1 hq1).1; omega), hq1]; rfl
      · simp only [outN, hjl, if_true]; exact idx_get hx
    | none =>
      simp only [hx] at hi
      split at hi
      · rename_i hb
        obtain ⟨q, hq1, hq2⟩ := n2 (i - b) p hi
        refine .inl ⟨L.length + (i - b), q, ?_, hq2, ?_, ?_⟩
        · rw [List.getElem?_map, List.getElem?_append_right (by omega), show L.length + (i - b) - os'.length = i - b by omega, hq1]; rfl
        · simp only [outN]; rw [if_neg (by omega), Nat.add_sub_cancel_left]; congr 1; omega
        · simp [plBack, hx, hb]
      · rename_i hb
        exact .inr ⟨rfl, hi, by simp [plBack, hx, hb]⟩
  have hgl : ∀ j q, ((os' ++ ns).map some)[j]? = some (some q) → hget ((os' ++ ns).map some) j = some q := fun j q hq => by unfold hget; rw [hq]
  have outInj : ∀ j k i, outN L b j = some i → outN L b k = some i → j < L.length + ns.length → k < L.length + ns.length → j = k := fun j k i hj hk hjl hkl => by
    unfold outN at hj hk
    split at hj
    · split at hk
      · have a := idx_of_get hd hj
        have c := idx_of_get hd hk
        rw [a] at c; cases c; rfl
      · cases hk
        have a := idx_of_get hd hj
        rw [newNotL _ (by omega) (by omega)] at a; cases a
    · split at hk
      · cases hj
        have a := idx_of_get hd hk
        rw [newNotL _ (by omega) (by omega)] at a; cases a
      · cases hj; simp at hk; omega
  -- a callee's block is not that of an old object that the callee doesn't reach
  have far : ∀ j q i p, ((os' ++ ns).map some)[j]? = some (some q) → idx L i = none → hget h i = some p → (m' j).1 ≠ (m i).1 := fun j q i p hq hi hp' e => by
    rcases tr.own j q (hgl j q hq) with h1 | ⟨k, ok, hk, h1⟩
    · have := r.lt hp'; omega
    · rw [hget_map] at hk
      have hkl : k < L.length := by have := (List.getElem?_eq_some_iff.1 hk).1; omega
      obtain ⟨o, _, ho⟩ := g2 k _ (List.getElem?_eq_getElem hkl)
      have hm : (m (L.getD k 0)).1 = (m i).1 := h1.symm.trans e
      rw [List.getD_eq_getElem?_getD, List.getElem?_eq_getElem hkl] at hm
      have := r.inj _ _ _ _ ho hp' hm
      exact idx_none hi (this ▸ List.getElem_mem hkl)
  have ext : Ext m h (plBack m m' L b ns.length) (place (scatter h L og) b ng) := fun i o ho => by
    cases hx : idx L i with
    | some j =>
      have hj := idx_get hx
      obtain ⟨o', ho1, ho2⟩ := g2 j i hj
      rw [ho] at ho2; cases ho2
      have hjl : j < L.length := (List.getElem?_eq_some_iff.1 hj).1
      have hjlo : j < lo.length := by omega
      obtain ⟨p, hp1, hp2⟩ := l2 j lo[j] (List.getElem?_eq_getElem hjlo)
      rw [ho1] at hp1; cases hp1
      have hpr := renO_props hp2
      obtain ⟨q, hq, e1, e2, e3, e4, e5⟩ := tr.ext j lo[j] (by rw [hget_map]; exact List.getElem?_eq_getElem hjlo)
      rw [hget_map, List.getElem?_append_left (by omega)] at hq
      have hjo : j < og.length := by omega
      obtain ⟨s, hs1, hs2⟩ := o2 j og[j] (List.getElem?_eq_getElem hjo)
      rw [hq] at hs1; cases hs1
      have hps := renO_props hs2
      refine ⟨og[j], by rw [look, hx]; exact List.getElem?_eq_getElem hjo, by rw [hps.1, e1, hpr.1], by rw [hps.2.1, e2, hpr.2.1], by rw [hps.2.2.1, e3, hpr.2.2.1], by rw [hps.2.2.2, ← hpr.2.2.2]; exact e4, fun hl => ?_⟩
      simp only [plBack, hx]
      have := e5 (by rw [← hps.2.2.2, hl, hpr.2.2.2])
      rw [this]
      simp [List.getD_eq_getElem?_getD, hj]
    | none =>
      have hnb : ¬ (b ≤ i ∧ i < b + ns.length) := fun hb => by
        have hn := room.2 (i - b) (by omega)
        rw [show b + (i - b) = i by omega, ho] at hn; cases hn
      refine ⟨o, by rw [look, hx]; simp only; rw [if_neg hnb]; exact ho, rfl, rfl, rfl, Nat.le_refl _, fun _ => by simp [plBack, hx, hnb]⟩
  refine ⟨⟨⟨fun i k p q hi hk e => ?_, fun i p hi => ?_, fun bl off v hv => ?_⟩, ext, tr.os, tr.tape, tr.output, tr.size, fun bl hbl hn => tr.frame bl hbl fun j q hq => ?_, fun i p hi => ?_⟩, emb⟩
  · rcases kind i p hi with ⟨j1, q1, a1, a2, a3, a4⟩ | ⟨a1, a2, a3⟩
    · rcases kind k q hk with ⟨j2, q2, c1, c2, c3, c4⟩ | ⟨c1, c2, c3⟩
      · rw [a4, c4] at e
        have := tr.rel.inj j1 j2 q1 q2 (hgl _ _ a1) (hgl _ _ c1) e
        subst this
        rw [a3] at c3; cases c3; rfl
      · rw [a4, c3] at e
        exact absurd e (far j1 q1 k q a1 c1 c2)
    · rcases kind k q hk with ⟨j2, q2, c1, c2, c3, c4⟩ | ⟨c1, c2, c3⟩
      · rw [a3, c4] at e
        exact absurd e.symm (far j2 q2 i p c1 a1 a2)
      · rw [a3, c3] at e
        exact r.inj i k p q a2 c2 e
  · rcases kind i p hi with ⟨j1, q1, a1, a2, a3, a4⟩ | ⟨a1, a2, a3⟩
    · obtain ⟨cs, t, fz, x⟩ := tr.rel.obj j1 q1 (hgl _ _ a1)
      exact ⟨cs, t, fz, x.ren emb a2 a4⟩
    · obtain ⟨cs, t, fz, x⟩ := r.obj i p a2
      refine ⟨cs, t, fz, ⟨?_, by rw [a3]; exact x.size, x.len, x.free, x.one, x.flat, fun j u v hu hv => (x.rel j u v hu hv).mono ext⟩⟩
      rw [a3, tr.frame _ (r.lt a2) fun j q hq e => ?_]
      · exact x.blk
      · rw [hget_map] at hq
        have hjl : j < L.length := by have := (List.getElem?_eq_some_iff.1 hq).1; omega
        obtain ⟨o, _, ho⟩ := g2 j _ (List.getElem?_eq_getElem hjl)
        rw [List.getD_eq_getElem?_getD, List.getElem?_eq_getElem hjl] at e
        have := r.inj _ _ _ _ ho a2 e
        exact idx_none a1 (this ▸ List.getElem_mem hjl)
  · obtain ⟨c1, c2, c3, c4⟩ := tr.rel.ro bl off v hv
    refine ⟨c1, c2, c3, fun i p hi => ?_⟩
    rcases kind i p hi with ⟨j1, q1, a1, a2, a3, a4⟩ | ⟨a1, a2, a3⟩
    · rw [a4]; exact c4 j1 q1 (hgl _ _ a1)
    · rw [a3]; exact (r.ro bl off v hv).2.2.2 i p a2
  · rw [hget_map] at hq
    have hjl : j < L.length := by have := (List.getElem?_eq_some_iff.1 hq).1; omega
    obtain ⟨o, _, ho⟩ := g2 j _ (List.getElem?_eq_getElem hjl)
    have := hn _ o ho
    rw [List.getD_eq_getElem?_getD, List.getElem?_eq_getElem hjl]
    exact this
  · rcases kind i p hi with ⟨j1, q1, a1, a2, a3, a4⟩ | ⟨a1, a2, a3⟩
    · rw [a4]
      rcases tr.own j1 q1 (hgl _ _ a1) with h1 | ⟨k, ok, hk, h1⟩
      · exact .inl h1
      · rw [hget_map] at hk
        have hkl : k < L.length := by have := (List.getElem?_eq_some_iff.1 hk).1; omega
        obtain ⟨o, _, ho⟩ := g2 k _ (List.getElem?_eq_getElem hkl)
        refine .inr ⟨L[k], o, ho, ?_⟩
        rw [h1, List.getD_eq_getElem?_getD, List.getElem?_eq_getElem hkl]
        rfl
    · exact .inr ⟨i, p, a2, by rw [a3]⟩

end Go.Ab

namespace Go.Ab

/-- Part of the memory under new numbers. -/
theorem restrict {M : Mem} {m : Pl} {h : AHeap} {w : World} (r : HRel M m h w) {L : List Nat} (hd : L.Nodup) {objs lo : List AObj} (hg : gather h L = some objs) (hlo : renOs (idx L) objs = some lo) :
    HRel M (fun j => m (L.getD j 0)) (lo.map some) w ∧ Emb (idx L) m h (fun j => m (L.getD j 0)) (lo.map some) := by
  obtain ⟨g1, g2⟩ := gather_get hg
  obtain ⟨l1, l2⟩ := renOs_get hlo
  have getD_eq : ∀ {j i : Nat}, L[j]? = some i → L.getD j 0 = i := fun {j i} hj => by rw [List.getD_eq_getElem?_getD, hj]; rfl
  have emb : Emb (idx L) m h (fun j => m (L.getD j 0)) (lo.map some) := fun i j o hj ho => by
    have hi := idx_get hj
    obtain ⟨p, hp1, hp2⟩ := g2 j i hi
    rw [ho] at hp2; cases hp2
    have hjl : j < lo.length := by have := (List.getElem?_eq_some_iff.1 hi).1; omega
    obtain ⟨q, hq1, hq2⟩ := l2 j lo[j] (List.getElem?_eq_getElem hjl)
    rw [hp1] at hq1; cases hq1
    have hpr := renO_props hq2
    exact ⟨lo[j], by rw [hget_map]; exact List.getElem?_eq_getElem hjl, hpr.1, hpr.2.1, hpr.2.2.2, by simp only; rw [getD_eq hi]⟩
  have obj : ∀ j p, hget (lo.map some) j = some p → ∃ i o, L[j]? = some i ∧ hget h i = some o ∧ renO (idx L) o = some p := fun j p hp => by
    rw [hget_map] at hp
    obtain ⟨o, ho1, ho2⟩ := l2 j p hp
    have hjl : j < L.length := by have := (List.getElem?_eq_some_iff.1 ho1).1; omega
    obtain ⟨q, hq1, hq2⟩ := g2 j L[j] (List.getElem?_eq_getElem hjl)
    rw [ho1] at hq1; cases hq1
    exact ⟨L[j], o, List.getElem?_eq_getElem hjl, hq2, ho2⟩
  refine ⟨⟨fun a b p q ha hb e => ?_, fun j p hp => ?_, fun b off v hv => ?_⟩, emb⟩
  · obtain ⟨i, o, h1, h2, h3⟩ := obj a p ha
    obtain ⟨k, o', h4, h5, h6⟩ := obj b q hb
    rw [getD_eq h1, getD_eq h4] at e
    have := r.inj i k o o' h2 h5 e
    subst this
    have a1 := idx_of_get hd h1
    have a2 := idx_of_get hd h4
    rw [a1] at a2; cases a2; rfl
  · obtain ⟨i, o, h1, h2, h3⟩ := obj j p hp
    obtain ⟨cs, t, fz, x⟩ := r.obj i o h2
    exact ⟨cs, t, fz, x.ren emb h3 (by rw [getD_eq h1])⟩
  · obtain ⟨c1, c2, c3, c4⟩ := r.ro b off v hv
    refine ⟨c1, c2, c3, fun j p hp => ?_⟩
    obtain ⟨i, o, h1, h2, h3⟩ := obj j p hp
    rw [getD_eq h1]
    exact c4 i o h2

/-- Known functions: what a call gives; whether a function leaves all that it is handed. -/
structure Fns where
  F : FuncId → List Value → List AObj → Option (Value × List AObj × List AObj)
  ro : FuncId → Bool

def Enters (P : Program) (f : FuncId) : Prop := ∃ fn, P.funcs[f]? = some fn ∧ (fn.name == "runtime.NumGoroutine") = false ∧ fn.body.isSome = true

/-- What a call gives: of a function with a body, which is entered, or of one of the model's own, which only reads. -/
def Answers (P : Program) (M : Mem) (f : FuncId) (args : List Value) (os : List AObj) (v : Value) (os' ns : List AObj) : Prop :=
  (Enters P f ∧ ACalls P M f args os v os' ns) ∨ (os' = os ∧ ns = [] ∧ ∀ (m : Pl) (w : World) (args' : Array Value), HRel M m (os.map some) w → LRel m (os.map some) args args'.toList →
    ∃ u, (callFunc f args').run P w = .ok (.value u) w ∧ VRel m (os.map some) v u)

def Fns.Sound (P : Program) (M : Mem) (K : Fns) : Prop := ∀ f args os v os' ns, K.F f args os = some (v, os', ns) → Answers P M f args os v os' ns ∧ (K.ro f = true → os' = os)

def nodupB : List Nat → Bool
  | [] => true
  | i :: r => !r.contains i && nodupB r

theorem nodupB_sound {l : List Nat} (h : nodupB l = true) : l.Nodup := by
  induction l with
  | nil => exact List.nodup_nil
  | cons i r ih =>
    simp only [nodupB, Bool.and_eq_true, Bool.not_eq_true', List.contains_eq_mem, decide_eq_false_iff_not] at h
    exact List.nodup_cons.2 ⟨h.1, ih h.2⟩

def callAct (K : Fns) (L : List Nat) (f : FuncId) (args : List Value) : Option AAct :=
  if nodupB L = true then match renL (idx L) args with
    | some largs => if K.ro f = true then
        some { rd := L, wt := [], f := fun b rs _ => match renOs (idx L) rs with
          | some lo => match K.F f largs lo with
            | some (v, _, ns) => match renV (outN L b) v, renOs (outN L b) ns with
              | some v', some ng => some (v', [], ng)
              | _, _ => none
            | none => none
          | none => none }
      else
        some { rd := [], wt := L, f := fun b _ os => match renOs (idx L) os with
          | some lo => match K.F f largs lo with
            | some (v, os', ns) => match renV (outN L b) v, renOs (outN L b) os', renOs (outN L b) ns with
              | some v', some og, some ng => some (v', og, ng)
              | _, _, _ => none
            | none => none
          | none => none }
    | none => none
  else none

theorem renOs_len {σ : Nat → Option Nat} {l l' : List AObj} (h : renOs σ l = some l') : l'.length = l.length := (renOs_get h).1

theorem idx_outN {L : List Nat} {b : Nat} : ∀ i j, idx L i = some j → outN L b j = some i := fun i j h => by
  have h1 := idx_get h
  have h2 := (List.getElem?_eq_some_iff.1 h1).1
  simp only [outN, h2, if_true]
  exact h1

theorem execOp_call {P : Program} {o : Oper} {a : Go.Act} {fx : Operand} {args : Array Operand} {ts : Array TypeId} (ho : o.op = .call ⟨.value fx, args, ts⟩) {f : FuncId} {fi ca : Array Value} (hf : a.eval fx = .func (.func f) fi ca) (he : Enters P f) (w : World) :
    (execOp a.eval o).run P w = .ok (.enter f (fi ++ args.map a.eval ++ ca)) w := by
  obtain ⟨fn, h1, h2, h3⟩ := he
  cases hb : fn.body with
  | none => rw [hb] at h3; cases h3
  | some c =>
    have hnb : fn.body.isNone = false := by rw [hb]; rfl
    simp only [execOp, ho, resolve, Sem.run_bind, hf, Deferred.ofValue, Sem.run_pure, Result.andThen_ok, invoke, callFunc, run_program, h1, h2, hnb, Bool.false_eq_true, if_false, Sem.run_ite]

theorem execOp_ext {P : Program} {o : Oper} {a : Go.Act} {fx : Operand} {args : Array Operand} {ts : Array TypeId} (ho : o.op = .call ⟨.value fx, args, ts⟩) {f : FuncId} {fi ca : Array Value} (hf : a.eval fx = .func (.func f) fi ca) {w : World} {u : Value}
    (hu : (callFunc f (fi ++ args.map a.eval ++ ca)).run P w = .ok (.value u) w) : (execOp a.eval o).run P w = .ok (.value u) w := by
  simp only [execOp, ho, resolve, Sem.run_bind, hf, Deferred.ofValue, Sem.run_pure, Result.andThen_ok, invoke]
  exact hu

theorem callAct_sound {P : Program} {M : Mem} {K : Fns} (hK : K.Sound P M) {m : Pl} {h h' : AHeap} {w : World} (r : HRel M m h w) {o : Oper} {a : Go.Act} {fx : Operand} {xs : Array Operand} {ts : Array TypeId} (ho : o.op = .call ⟨.value fx, xs, ts⟩)
    {f : FuncId} {fi ca : Array Value} {us : List Value} (hf : VRel m h (.func (.func f) fi ca) (a.eval fx)) (hus : LRel m h us (xs.toList.map a.eval)) {L : List Nat} {act : AAct} (hact : callAct K L f (fi.toList ++ us ++ ca.toList) = some act) {b : Nat} (hb : Room h b (act.cnt b h)) {v : Value} (hl : act.run b h = some (v, h')) :
    OpOk P M o a m h w v h' := by
  obtain ⟨fi', ca', hfv, hfi, hca⟩ : ∃ fi' ca', a.eval fx = .func (.func f) fi' ca' ∧ LRel m h fi.toList fi'.toList ∧ LRel m h ca.toList ca'.toList := by
    generalize a.eval fx = q at hf
    cases hf with
    | same hg =>
      simp only [ground, Bool.and_eq_true] at hg
      exact ⟨fi, ca, rfl, LRel.same (by cases fi; simpa [groundA] using hg.1), LRel.same (by cases ca; simpa [groundA] using hg.2)⟩
    | func hx hpx hy hpy => exact ⟨_, _, rfl, ARel.list ⟨hx, hpx⟩, ARel.list ⟨hy, hpy⟩⟩
  have hargs : LRel m h (fi.toList ++ us ++ ca.toList) (fi' ++ xs.map a.eval ++ ca').toList := by
    have := (hfi.append hus).append hca
    simpa using this
  unfold callAct at hact
  split at hact
  · rename_i hnd
    have hd := nodupB_sound hnd
    split at hact
    · rename_i largs hla
      split at hact
      · rename_i hro
        cases hact
        simp only [AAct.run] at hl
        split at hl
        · rename_i rs os0 hg hg0
          cases hg0
          have hcnt := hb
          simp only [AAct.cnt, hg, gather] at hcnt
          split at hl
          · rename_i v1 os1 ns1 hf1
            rw [hf1] at hcnt
            simp only at hcnt
            split at hf1
            · rename_i lo hlo
              split at hf1
              · rename_i v2 os2 ns2 hF
                split at hf1
                · rename_i v' ng hv' hng
                  cases hf1
                  simp only [scatter, Option.some.injEq, Prod.mk.injEq] at hl
                  obtain ⟨rfl, rfl⟩ := hl
                  obtain ⟨hcl, hro'⟩ := hK _ _ _ _ _ _ hF
                  have hos := hro' hro
                  subst hos
                  obtain ⟨hr1, hemb⟩ := restrict r hd hg hlo
                  have hback := renOs_back (idx_outN (b := b)) hlo
                  have hnl := renOs_len hng
                  intro Kk Q hk
                  rcases hcl with ⟨hen, hlen, hcall⟩ | ⟨_, hns, hext⟩
                  rotate_left
                  · subst hns
                    obtain ⟨u, hu, hvr⟩ := hext _ _ _ hr1 (hargs.ren hemb hla)
                    obtain ⟨ht, hem⟩ := graft r hd hg hlo (by rw [List.append_nil]; exact Tr.refl hr1) rfl hback hng (by rw [← hnl]; exact hcnt)
                    rw [scatter_same hg] at ht hem
                    simp only [Oper.wp, execOp_ext ho hfv hu, Oper.upon]
                    refine hk _ _ _ ht (hvr.ren (by rw [List.append_nil] at hem; exact hem) hv')
                  have hC := hcall _ _ _ hr1 (hargs.ren hemb hla)
                  simp only [Oper.wp, execOp_call ho hfv hen, Oper.upon]
                  refine hC.mono fun e w' he => ?_
                  obtain ⟨v'', m', rfl, htr, hvr⟩ := he
                  obtain ⟨ht, hem⟩ := graft r hd hg hlo htr rfl hback hng (by rw [← hnl]; exact hcnt)
                  rw [scatter_same hg] at ht hem
                  exact hk _ _ _ ht (hvr.ren hem hv')
                · cases hf1
              · cases hf1
            · cases hf1
          · cases hl
        · cases hl
      · rename_i hro
        cases hact
        simp only [AAct.run] at hl
        split at hl
        · rename_i rs0 os hg0 hg
          cases hg0
          have hcnt := hb
          simp only [AAct.cnt, hg, gather] at hcnt
          split at hl
          · rename_i v1 os1 ns1 hf1
            rw [hf1] at hcnt
            simp only at hcnt
            split at hf1
            · rename_i lo hlo
              split at hf1
              · rename_i v2 os2 ns2 hF
                split at hf1
                · rename_i v' og ng hv' hog hng
                  cases hf1
                  simp only [Option.some.injEq, Prod.mk.injEq] at hl
                  obtain ⟨rfl, rfl⟩ := hl
                  obtain ⟨hcl, hro'⟩ := hK _ _ _ _ _ _ hF
                  obtain ⟨hr1, hemb⟩ := restrict r hd hg hlo
                  have hnl := renOs_len hng
                  intro Kk Q hk
                  rcases hcl with ⟨hen, hlen, hcall⟩ | ⟨hos, hns, hext⟩
                  rotate_left
                  · subst hns hos
                    obtain ⟨u, hu, hvr⟩ := hext _ _ _ hr1 (hargs.ren hemb hla)
                    obtain ⟨ht, hem⟩ := graft r hd hg hlo (by rw [List.append_nil]; exact Tr.refl hr1) rfl hog hng (by rw [← hnl]; exact hcnt)
                    simp only [Oper.wp, execOp_ext ho hfv hu, Oper.upon]
                    refine hk _ _ _ ht (hvr.ren (by rw [List.append_nil] at hem; exact hem) hv')
                  have hC := hcall _ _ _ hr1 (hargs.ren hemb hla)
                  simp only [Oper.wp, execOp_call ho hfv hen, Oper.upon]
                  refine hC.mono fun e w' he => ?_
                  obtain ⟨v'', m', rfl, htr, hvr⟩ := he
                  obtain ⟨ht, hem⟩ := graft r hd hg hlo htr hlen hog hng (by rw [← hnl]; exact hcnt)
                  exact hk _ _ _ ht (hvr.ren hem hv')
                · cases hf1
              · cases hf1
            · cases hf1
          · cases hl
        · cases hl
    · cases hact
  · cases hact

end Go.Ab

namespace Go.Ab

def byteInts : List Value → Option (List Int)
  | [] => some []
  | .int .u8 n :: r => match byteInts r with
    | some l => some (n :: l)
    | none => none
  | _ => none

theorem byteInts_eq : ∀ {l : List Value} {ns : List Int}, byteInts l = some ns → l = ns.map (Value.int .u8) := by
  intro l
  induction l with
  | nil => intro ns h; cases h; rfl
  | cons v r ih =>
    intro ns h
    unfold byteInts at h
    split at h
    · rename_i heq; cases heq
    · rename_i n r' heq
      cases heq
      split at h
      · rename_i l hl; cases h; rw [ih hl]; rfl
      · cases h
    · cases h

theorem groundL_bytes (ns : List Int) : groundL (ns.map (Value.int .u8)) = true := (groundL_iff _).2 fun v hv => by
  obtain ⟨n, _, rfl⟩ := List.mem_map.1 hv; rfl

def strAct (P : Program) (M : Mem) (s d : TypeId) (x : Value) : Option AAct :=
  match P.underlying s, P.underlying d with
  | some (.slice e), some .string => match P.underlying e, srcN x with
    | some (.int .u8), some n => match x with
      | .slice (some _) _ _ => some { rd := srcFp x, wt := [], f := fun _ rs _ => match srcCells M 1 (olook (srcFp x) rs) n x with
        | some (us, _) => match byteInts us with
          | some ns => some (.string ⟨(ns.map fun n => UInt8.ofNat n.toNat).toArray⟩, [], [])
          | none => none
        | none => none }
      | .slice none 0 _ => some { rd := [], wt := [], f := fun _ _ _ => some (.string ⟨#[]⟩, [], []) }
      | _ => none
    | _, _ => none
  | _, _ => none

theorem strAct_sound {P : Program} {M : Mem} {m : Pl} {h h' : AHeap} {w : World} (r : HRel M m h w) {o : Oper} {a : Go.Act} {s d : TypeId} {x : Operand} (ho : o.op = .convert s d x) {val : Value}
    (hx : VRel m h val (a.eval x)) {act : AAct} (hact : strAct P M s d val = some act) {b : Nat} {v : Value} (hl : act.run b h = some (v, h')) : OpOk P M o a m h w v h' := by
  unfold strAct at hact
  split at hact
  · rename_i e hs hd
    split at hact
    · rename_i n he hn
      have hlen0 := srcN_run (P := P) hx hn w
      split at hact
      · rename_i ad ln cp
        cases hact
        simp only [AAct.run] at hl
        split at hl
        · rename_i rs os hg hg2
          cases hg2
          split at hl
          · rename_i v1 os1 ns1 hf
            split at hf
            · rename_i us fs hsrc
              split at hf
              · rename_i ns hns
                cases hf
                simp only [scatter, place, Option.some.injEq, Prod.mk.injEq] at hl
                obtain ⟨rfl, rfl⟩ := hl
                obtain ⟨vs, hrun, hrel, hul, hone, hgr⟩ := srcCells_sound (P := P) r hx (fun j p hp => olook_gather hg hp) hsrc
                have hus := byteInts_eq hns
                subst hus
                have hvs := hrel.eq (groundL_bytes ns)
                subst hvs
                obtain ⟨a', c', hv⟩ := hx.slc_inv
                have hn' : n = ln := by simp [srcN] at hn; omega
                subst hn'
                have hc := hrun w.drawn
                rw [hv] at hc
                simp only [Builtin.firstCells, Nat.mul_one] at hc
                refine .of_value (u := .string ⟨(ns.map fun n => UInt8.ofNat n.toNat).toArray⟩) (w' := w) ?_ (.refl r) (.same rfl)
                have h1 := run_convert_bytes_string (P := P) w s d e (some a') n c' hs he hd
                have h2 := run_bytesToString (P := P) w a' n c' ns hc
                rw [foldl_push_bytes] at h2
                simp only [execOp, ho, hv, Sem.run_bind, h1, h2, Result.andThen_ok, Sem.run_pure]
                simp [ByteArray.empty, ByteArray.emptyWithCapacity]
                rfl
              · cases hf
            · cases hf
          · cases hl
        · cases hl
      · rename_i c
        cases hact
        simp only [AAct.run, gather, scatter, place, Option.some.injEq, Prod.mk.injEq] at hl
        obtain ⟨rfl, rfl⟩ := hl
        have hv := hx.eq rfl
        refine .of_value (u := .string ⟨#[]⟩) (w' := w) ?_ (.refl r) (.same rfl)
        have h1 := run_convert_bytes_nil (P := P) w s e hs he 0 c d hd
        simp only [execOp, ho, hv, Sem.run_bind, h1, Result.andThen_ok, Sem.run_pure]
        rfl
      · cases hact
    · cases hact
  · cases hact

def bytesAct (P : Program) (s d : TypeId) (x : ByteArray) : Option AAct :=
  match P.underlying s, P.underlying d with
  | some _, some (.slice e) => match P.underlying e with
    | some (.int .u8) => some (newAct ⟨strCells x x.size, true, 1, true⟩ (slcTo x.size x.size x.size))
    | _ => none
  | _, _ => none

theorem strCells_len (x : ByteArray) : (strCells x x.size).length = x.size := by
  have : x.size = x.data.toList.length := by simp
  simp [strCells]

theorem strCells_ground (x : ByteArray) (n : Nat) : groundL (strCells x n) = true := (groundL_iff _).2 fun v hv => by
  simp only [strCells, List.mem_map] at hv
  obtain ⟨b, _, rfl⟩ := hv
  rfl

theorem bytesAct_sound {P : Program} {M : Mem} {m : Pl} {h h' : AHeap} {w : World} (r : HRel M m h w) {o : Oper} {a : Go.Act} {s d : TypeId} {x : Operand} (ho : o.op = .convert s d x) {str : ByteArray}
    (hx : VRel m h (.string str) (a.eval x)) {act : AAct} (hact : bytesAct P s d str = some act) {b : Nat} (hb : Room h b 1) {v : Value} (hl : act.run b h = some (v, h')) : OpOk P M o a m h w v h' := by
  unfold bytesAct at hact
  split at hact
  · rename_i du e hs hd
    split at hact
    · rename_i he
      cases hact
      obtain ⟨rfl, rfl⟩ := newAct_run hl
      have hv := hx.eq rfl
      have hrun := Lib.run_convert_string_bytes (P := P) w s d e str hs hd he
      have hcap : str.size ≤ grownCap w str.size 0 e := Nat.le_add_right _ _
      have hcs : (Lib.bytesCells w e str).size = grownCap w str.size 0 e := by
        have h1 : str.size = str.data.size := rfl
        simp only [Lib.bytesCells, Array.size_append, Array.size_map, Array.size_replicate]
        omega
      have hget : ∀ (j : Nat) v, (Lib.bytesCells w e str)[j]? = some v → (∃ n, v = .int .u8 n) ∧ ∀ u, (strCells str str.size)[j]? = some u → v = u := fun j v hv => by
        have h1 : str.size = str.data.toList.length := by simp
        have hl := strCells_len str
        simp only [Lib.bytesCells, Array.getElem?_append, Array.size_map] at hv
        split at hv
        · rename_i hj
          simp only [Array.getElem?_map] at hv
          have hj' : j < str.data.size := hj
          rw [Array.getElem?_eq_getElem hj'] at hv
          simp at hv
          refine ⟨⟨_, hv.symm⟩, fun u hu => ?_⟩
          simp only [strCells] at hu
          have h3 : str.data.size = str.size := rfl
          rw [List.getElem?_map, List.getElem?_take, if_pos (by omega)] at hu
          simp at hu
          obtain ⟨x1, hx1, hu⟩ := hu
          rw [Array.getElem?_eq_getElem hj'] at hx1
          cases hx1
          rw [← hu, ← hv]
        · rename_i hj
          rw [Array.getElem?_replicate] at hv
          split at hv
          · cases hv
            refine ⟨⟨0, rfl⟩, fun u hu => ?_⟩
            have := (List.getElem?_eq_some_iff.1 hu).1
            have h2 : str.data.size = str.size := rfl
            omega
          · cases hv
      have htr := Tr.new (w' := Lib.bytesWorld w e str) r hb.1 (by have := hb.2 0 (by omega); simpa using this) ⟨strCells str str.size, true, 1, true⟩ (Lib.bytesCells w e str) e ((Lib.bytesCells w e str).size, (Lib.bytesCells w e str).size + 1)
        (Lib.bytesWorld_at_new w e str) (fun k hk => Lib.bytesWorld_at_old w e str k hk) rfl rfl rfl (by simp only [strCells_len, hcs]; exact hcap) (fun j hj hx => by simp at hx; omega)
        (fun j v hv => by obtain ⟨⟨n, rfl⟩, _⟩ := hget j v hv; rfl) (fun _ => strCells_ground _ _)
        (fun j u v hu hv => by
          have := (hget j v hv).2 u hu
          subst this
          exact .same (groundL_get (strCells_ground _ _) hu))
      refine .of_value ?_ htr (new_slc (m := m) (h := h) (b := w.heap.size) (n := (Lib.bytesCells w e str).size) (o := ⟨strCells str str.size, true, 1, true⟩) (len := str.size) (cap := str.size) (cap' := grownCap w str.size 0 e) hb.1 (Nat.le_refl _) hcap rfl (by simp only [hcs]; omega) |> fun q => by rw [strCells_len] at q; exact q)
      simp only [execOp, ho, hv, Sem.run_bind, hrun, Result.andThen_ok, Sem.run_pure]
    · cases hact
  · cases hact

/-- The numbers of the objects that a value names. -/
def addN (l : List Nat) (i : Nat) : List Nat := if l.contains i then l else l ++ [i]

mutual
def idsV (l : List Nat) : Value → List Nat
  | .pointer (some ⟨i, _, some _⟩) => addN l i
  | .slice (some ⟨i, _, some _⟩) _ _ => addN l i
  | .func _ x y => idsA (idsA l x) y
  | .iface _ v => idsV l v
  | .agg cs => idsA l cs
  | .tuple cs => idsA l cs
  | _ => l
def idsA (l : List Nat) : Array Value → List Nat
  | ⟨x⟩ => idsL l x
def idsL (l : List Nat) : List Value → List Nat
  | [] => l
  | v :: r => idsL (idsV l v) r
end

def pureAct (v : Value) : AAct := { rd := [], wt := [], f := fun _ _ _ => some (v, [], []) }

theorem pureAct_run {v u : Value} {b : Nat} {h h' : AHeap} (hl : (pureAct v).run b h = some (u, h')) : u = v ∧ h' = h := by
  simp only [pureAct, AAct.run, gather, scatter, place, Option.some.injEq, Prod.mk.injEq] at hl
  exact ⟨hl.1.symm, hl.2.symm⟩

/-- Every operation (cl: to the numbers of the objects that the arguments name those that can be reached from them). -/
def opAct (P : Program) (M : Mem) (K : Fns) (cl : List Nat → List Nat) (ρ : Operand → Option Value) : Op → Option AAct
  | .load t x => match ρ x with
    | some (.pointer (some a)) => some (loadAct P M t a)
    | _ => none
  | .store t x y => match ρ x, ρ y with
    | some (.pointer (some a)), some v => storeAct P t a v
    | _, _ => none
  | .alloc t => allocAct P t
  | .box t x => match ρ x with
    | some v => boxAct P t v
    | none => none
  | .buildSlice t n ps => match aparts ρ ps.toList with
    | some l => buildSliceAct P t n l
    | none => none
  | .makeSlice t x y => match ρ x, ρ y with
    | some l, some c => makeAct P t l c
    | _, _ => none
  | .slice t x lo hi mx => match ρ x with
    | some (.string s) => match pv P ρ (.slice t x lo hi mx) with
      | some v => some (pureAct v)
      | none => none
    | some v => match pv.optv ρ lo, pv.optv ρ hi, pv.optv ρ mx with
      | some l, some h, some m => sliceAct P t v l h m
      | _, _, _ => none
    | none => none
  | .convert s d x => match ρ x with
    | some (.slice a n c) => strAct P M s d (.slice a n c)
    | some (.string str) => bytesAct P s d str
    | some _ => match pv P ρ (.convert s d x) with
      | some v => some (pureAct v)
      | none => none
    | none => none
  | .call ⟨.builtin .append, ⟨[x, y]⟩, ⟨[t1, t2]⟩⟩ => match ρ x, ρ y with
    | some u, some v => appendAct P M t1 t2 u v
    | _, _ => none
  | .call ⟨.builtin .copy, ⟨[x, y]⟩, ⟨[t1, t2]⟩⟩ => match ρ x, ρ y with
    | some u, some v => copyAct P M t1 u v
    | _, _ => none
  | .call ⟨.value fx, xs, ts⟩ => match ρ fx, avals ρ xs.toList with
    | some (.func (.func f) fi ca), some us => callAct K (cl (idsL [] (fi.toList ++ us ++ ca.toList))) f (fi.toList ++ us ++ ca.toList)
    | _, _ => none
  | op => match pv P ρ op with
    | some v => some (pureAct v)
    | none => none

theorem pv_ok {P : Program} {M : Mem} {m : Pl} {h h' : AHeap} {w : World} (r : HRel M m h w) {o : Oper} {a : Go.Act} {ρ : Operand → Option Value} (hρ : ∀ x u, ρ x = some u → VRel m h u (a.eval x)) {u : Value} (hp : pv P ρ o.op = some u)
    {b : Nat} {v : Value} (hl : (pureAct u).run b h = some (v, h')) : OpOk P M o a m h w v h' := by
  obtain ⟨rfl, rfl⟩ := pureAct_run hl
  obtain ⟨v', hv, hrun⟩ := pv_sound hρ hp
  exact .of_value (hrun w) (.refl r) hv

theorem room_new {act : AAct} {o : AObj} {f : Nat → Value} {b : Nat} {h : AHeap} (hb : Room h b (act.cnt b h)) (he : act = newAct o f) : Room h b 1 := by
  subst he; exact hb

set_option maxHeartbeats 1000000 in
theorem opAct_sound {P : Program} {M : Mem} {K : Fns} (hK : K.Sound P M) {cl : List Nat → List Nat} {m : Pl} {h h' : AHeap} {w : World} (r : HRel M m h w) {o : Oper} {a : Go.Act} {ρ : Operand → Option Value} (hρ : ∀ x u, ρ x = some u → VRel m h u (a.eval x))
    {act : AAct} (hact : opAct P M K cl ρ o.op = some act) {b : Nat} (hb : Room h b (act.cnt b h)) {v : Value} (hl : act.run b h = some (v, h')) : OpOk P M o a m h w v h' := by
  obtain ⟨op, hop⟩ : ∃ op, op = o.op := ⟨_, rfl⟩
  rw [← hop] at hact
  have pure_ok : ∀ u, pv P ρ op = some u → act = pureAct u → OpOk P M o a m h w v h' := fun u hp he => by
    subst he; exact pv_ok r hρ (by rw [← hop]; exact hp) hl
  unfold opAct at hact
  split at hact
  · split at hact
    · rename_i hx; cases hact; exact loadAct_sound r hop.symm (hρ _ _ hx) hl
    · cases hact
  · split at hact
    · rename_i hx hy; exact storeAct_sound r hop.symm (hρ _ _ hx) (hρ _ _ hy) hact hl
    · cases hact
  · refine allocAct_sound r hop.symm hact ?_ hl
    unfold allocAct at hact
    split at hact
    · split at hact
      · cases hact; exact hb
      · cases hact
    · cases hact
  · split at hact
    · rename_i hx
      refine boxAct_sound r hop.symm (hρ _ _ hx) hact ?_ hl
      unfold boxAct at hact
      split at hact
      · split at hact
        · cases hact; exact hb
        · cases hact
      · cases hact
    · cases hact
  · split at hact
    · rename_i hx
      refine buildSliceAct_sound r hop.symm hρ hx hact ?_ hl
      unfold buildSliceAct at hact
      split at hact
      · split at hact
        · split at hact
          · split at hact
            · split at hact
              · cases hact; exact hb
              · cases hact
            · cases hact
          · cases hact
        · cases hact
      · cases hact
    · cases hact
  · split at hact
    · rename_i hx hy
      refine makeAct_sound r hop.symm (hρ _ _ hx) (hρ _ _ hy) hact ?_ hl
      unfold makeAct at hact
      split at hact
      · split at hact
        · split at hact
          · cases hact; exact hb
          · cases hact
        · cases hact
      · cases hact
    · cases hact
  · split at hact
    · split at hact
      · rename_i v1 hv; cases hact; exact pure_ok _ hv rfl
      · cases hact
    · rename_i hx
      split at hact
      · rename_i l1 h1 m1 hlo hhi hmx
        exact sliceAct_sound r hop.symm (hρ _ _ hx) (optv_sound hρ hlo) (optv_sound hρ hhi) (optv_sound hρ hmx) hact hl
      · cases hact
    · cases hact
  · split at hact
    · rename_i hx; exact strAct_sound r hop.symm (hρ _ _ hx) hact hl
    · rename_i hx
      refine bytesAct_sound r hop.symm (hρ _ _ hx) hact ?_ hl
      unfold bytesAct at hact
      split at hact
      · split at hact
        · cases hact; exact hb
        · cases hact
      · cases hact
    · split at hact
      · rename_i v1 hv; cases hact; exact pure_ok _ hv rfl
      · cases hact
    · cases hact
  · split at hact
    · rename_i hx hy; exact appendAct_sound r hop.symm (hρ _ _ hx) (hρ _ _ hy) hact hb hl
    · cases hact
  · split at hact
    · rename_i hx hy; exact copyAct_sound r hop.symm (hρ _ _ hx) (hρ _ _ hy) hact hl
    · cases hact
  · split at hact
    · rename_i hf hus; exact callAct_sound hK r hop.symm (hρ _ _ hf) (avals_sound hρ _ _ hus) hact hb hl
    · cases hact
  · split at hact
    · rename_i v1 hv; cases hact; exact pure_ok _ hv rfl
    · cases hact

end Go.Ab

namespace Go.Ab

def ayield (ops : Array Oper) (ts : List Value) (j : Nat) : Option Bool :=
  match ops[j]? with
  | some o => match o.dst with
    | some d => match ts[d]? with
      | some (.bool b) => some b
      | _ => none
    | none => none
  | none => none

def awanted (ops : Array Oper) (ts : List Value) (o : Oper) : Bool :=
  match o.guard with
  | none => true
  | some (j, want) => match ayield ops ts j with
    | some b => b == want
    | none => false

theorem VRel.bool_inv {m : Pl} {h : AHeap} {u : Value} {b : Bool} (hr : VRel m h u (.bool b)) : u = .bool b := by cases hr; rfl

theorem ayield_eq {m : Pl} {h : AHeap} {ops : Array Oper} {ts : List Value} {a : Go.Act} (r : TRel m h ts a.tmps) (j : Nat) : ayield ops ts j = yielded ops a.tmps j := by
  unfold ayield yielded
  cases ho : ops[j]? with
  | none => rfl
  | some o =>
    simp only [Option.bind_some]
    cases hd : o.dst with
    | none => rfl
    | some d =>
      simp only [Option.bind_some]
      cases ht : ts[d]? with
      | none =>
        have : a.tmps[d]? = none := by
          rw [Array.getElem?_eq_none_iff]
          have h1 := List.getElem?_eq_none_iff.1 ht
          have h2 := r.1
          simp at h2
          omega
        rw [this]
      | some u =>
        obtain ⟨v, hv, hr⟩ := r.get ht
        have hv' : a.tmps[d]? = some v := by simpa using hv
        rw [hv']
        by_cases hb : ∃ b, u = .bool b
        · obtain ⟨b, rfl⟩ := hb
          have := hr.bool
          subst this
          rfl
        · have hv2 : ∀ b, v ≠ .bool b := fun b e => hb ⟨b, by subst e; exact hr.bool_inv⟩
          cases u <;> first
            | exact absurd ⟨_, rfl⟩ hb
            | (cases v <;> first | rfl | exact absurd rfl (hv2 _))

theorem awanted_eq {m : Pl} {h : AHeap} {ops : Array Oper} {ts : List Value} {a : Go.Act} (r : TRel m h ts a.tmps) (o : Oper) : awanted ops ts o = Region.wanted o (yielded ops a.tmps) := by
  unfold awanted Region.wanted
  split
  · rename_i hg; simp [hg]
  · rename_i j want hg
    simp only [hg]
    rw [ayield_eq r]
    cases yielded ops a.tmps j with
    | none => rfl
    | some b => cases b <;> cases want <;> rfl

section
variable (P : Program) (M : Mem) (K : Fns) (cl : List Nat → List Nat) (ops : Array Oper)

/-- One operation, its new objects from number b on. -/
def ostep (b : Nat) (o : Oper) (s : ASt) : Option ASt :=
  if awanted ops s.tmps o then match opAct P M K cl (aev s.tmps) o.op with
    | some act => match act.run b s.heap with
      | some (v, h') => some ⟨aput s.tmps o.dst v, h'⟩
      | none => none
    | none => none
  else some ⟨aput s.tmps o.dst undef, s.heap⟩

def ocnt (b : Nat) (o : Oper) (s : ASt) : Nat :=
  if awanted ops s.tmps o then match opAct P M K cl (aev s.tmps) o.op with
    | some act => act.cnt b s.heap
    | none => 0
  else 0

/-- One behind the other. -/
def rruns : List Nat → ASt → Option ASt
  | [], s => some s
  | i :: l, s => match ops[i]? with
    | none => rruns l s
    | some o => match ostep P M K cl ops s.heap.length o s with
      | some s' => rruns l s'
      | none => none
end

section
variable {P : Program} {M : Mem} {K : Fns} {cl : List Nat → List Nat} {ops : Array Oper}

theorem ostep_sound (hK : K.Sound P M) {m : Pl} {s s' : ASt} {w : World} {a : Go.Act} {o : Oper} {b : Nat} (r : HRel M m s.heap w) (ht : TRel m s.heap s.tmps a.tmps) (hd : a.defers = []) (hs : ostep P M K cl ops b o s = some s')
    (hb : Room s.heap b (ocnt P M K cl ops b o s)) {Kk : Go.Act → World → Prop} {Q : Exit → Go.Act → World → Prop}
    (hk : ∀ m' a' w', Tr M m s.heap w m' s'.heap w' → TRel m' s'.heap s'.tmps a'.tmps → a'.defers = [] → Kk a' w') :
    if Region.wanted o (yielded ops a.tmps) then o.wp P a w Kk Q ∨ (o.asks P a w ∧ LetsOut Q) else Kk (a.put o.dst undef) w := by
  have put_defers : ∀ (d : Option Tmp) (v : Value), (a.put d v).defers = [] := fun d v => by cases d <;> exact hd
  rw [← awanted_eq ht]
  unfold ostep at hs
  unfold ocnt at hb
  by_cases hw : awanted ops s.tmps o = true
  · rw [if_pos hw] at hs hb ⊢
    split at hs
    · rename_i act hact
      rw [hact] at hb
      split at hs
      · rename_i v h' hrun
        cases hs
        refine .inl (opAct_sound hK r (fun x u hx => aev_sound ht hx) hact hb hrun Kk Q fun m' w' u htr hv => ?_)
        exact hk m' _ w' htr (aput_sound (ht.mono htr.ext) hv) (put_defers _ _)
      · cases hs
    · cases hs
  · rw [if_neg hw] at hs ⊢
    cases hs
    exact hk m _ w (.refl r) (aput_sound ht (.same rfl)) (put_defers _ _)

theorem rruns_sound (hK : K.Sound P M) {Q : Exit → Go.Act → World → Prop} : ∀ (l : List Nat) {m : Pl} {s s' : ASt} {w : World} {a : Go.Act}, HRel M m s.heap w → TRel m s.heap s.tmps a.tmps → a.defers = [] → rruns P M K cl ops l s = some s' →
    (∀ m' a' w', Tr M m s.heap w m' s'.heap w' → TRel m' s'.heap s'.tmps a'.tmps → a'.defers = [] → Q .normal a' w') → wpOps P ops Q l a w := by
  intro l
  induction l with
  | nil => intro m s s' w a r ht hd hs hk; cases hs; exact hk m a w (.refl r) ht hd
  | cons i l ih =>
    intro m s s' w a r ht hd hs hk
    simp only [rruns] at hs
    simp only [wpOps]
    split at hs
    · rename_i ho
      simp only [ho]
      exact ih r ht hd hs hk
    · rename_i o ho
      simp only [ho]
      split at hs
      · rename_i s1 h1
        exact ostep_sound hK r ht hd h1 (Room.end_ _ _) fun m' a' w' htr ht' hd' => ih htr.rel ht' hd' hs fun m2 a2 w2 htr2 ht2 hd2 => hk m2 a2 w2 (htr.trans htr2) ht2 hd2
      · cases hs

end

/-- How a piece of code is left. -/
inductive AExit where
  | normal
  | exit (id : Nat)
  | ret
  deriving DecidableEq

def AExit.to : AExit → Exit
  | .normal => .normal
  | .exit id => .exit id
  | .ret => .ret

/-- From the abstract state s the code comes to s', left so. -/
def Big (P : Program) (M : Mem) (c : Code) (s : ASt) (e : AExit) (s' : ASt) : Prop :=
  ∀ (m : Pl) (a : Go.Act) (w : World), HRel M m s.heap w → TRel m s.heap s.tmps a.tmps → a.defers = [] →
    c.wp P (fun e1 a1 w1 => e1 = e.to ∧ ∃ m1, Tr M m s.heap w m1 s'.heap w1 ∧ TRel m1 s'.heap s'.tmps a1.tmps ∧ a1.defers = []) a w

section
variable {P : Program} {M : Mem}

theorem Big.skip {s : ASt} : Big P M .skip s .normal s := fun m a w r ht hd => wp_skip ⟨rfl, m, .refl r, ht, hd⟩
theorem Big.label {s : ASt} {l : Nat} : Big P M (.label l) s .normal s := fun m a w r ht hd => wp_label ⟨rfl, m, .refl r, ht, hd⟩
theorem Big.exit {s : ASt} {id : Nat} : Big P M (.exit id) s (.exit id) s := fun m a w r ht hd => wp_exit ⟨rfl, m, .refl r, ht, hd⟩
theorem Big.ret {s : ASt} : Big P M .ret s .ret s := fun m a w r ht hd => wp_ret ⟨rfl, m, .refl r, ht, hd⟩

theorem Big.seq {x y : Code} {s s1 s2 : ASt} {e : AExit} (h1 : Big P M x s .normal s1) (h2 : Big P M y s1 e s2) : Big P M (.seq x y) s e s2 := fun m a w r ht hd => by
  refine wp_seq (wp_mono (h1 m a w r ht hd) ?_)
  rintro e1 a1 w1 ⟨rfl, m1, htr, ht1, hd1⟩
  refine wp_mono (h2 m1 a1 w1 htr.rel ht1 hd1) ?_
  rintro e2 a2 w2 ⟨rfl, m2, htr2, ht2, hd2⟩
  exact ⟨rfl, m2, htr.trans htr2, ht2, hd2⟩

theorem Big.seq_out {x y : Code} {s s1 : ASt} {e : AExit} (he : e ≠ .normal) (h1 : Big P M x s e s1) : Big P M (.seq x y) s e s1 := fun m a w r ht hd => by
  refine wp_seq (wp_mono (h1 m a w r ht hd) ?_)
  rintro e1 a1 w1 ⟨rfl, hrest⟩
  cases e with
  | normal => exact absurd rfl he
  | exit id => exact ⟨rfl, hrest⟩
  | ret => exact ⟨rfl, hrest⟩

theorem Big.cond {c : Operand} {x y : Code} {s s1 : ASt} {e : AExit} {b : Bool} (hc : aev s.tmps c = some (.bool b)) (h : Big P M (if b then x else y) s e s1) : Big P M (.cond c x y) s e s1 :=
  fun m a w r ht hd => wp_cond ((aev_sound ht hc).bool) (h m a w r ht hd)

theorem Big.block {id : Nat} {c : Code} {s s1 : ASt} {e : AExit} (h : Big P M c s e s1) : Big P M (.block id c) s (match e with | .exit i => if i = id then .normal else .exit i | e => e) s1 := fun m a w r ht hd => by
  refine wp_block (wp_mono (h m a w r ht hd) ?_)
  rintro e1 a1 w1 ⟨rfl, hrest⟩
  cases e with
  | normal => exact ⟨rfl, hrest⟩
  | ret => exact ⟨rfl, hrest⟩
  | exit i =>
    simp only [AExit.to, Exit.inBlock]
    split
    · rename_i hi; exact ⟨rfl, hrest⟩
    · exact ⟨rfl, hrest⟩

theorem wp_loop_idx {c : Code} {Q : Exit → Go.Act → World → Prop} {a : Go.Act} {w : World} (I : Nat → Go.Act → World → Prop) (n : Nat) (h0 : I 0 a w)
    (round : ∀ k a w, k < n → I k a w → c.wp P (fun e a' w' => e = .normal ∧ I (k + 1) a' w') a w)
    (last : ∀ a w, I n a w → c.wp P (fun e a' w' => e ≠ .normal ∧ Q e a' w') a w) : (Code.loop c).wp P Q a w := by
  intro b k cs
  have key : ∀ d j a w, n - j = d → j ≤ n → I j a w →
      ∃ e a' w', Q e a' w' ∧ Arrives P (lone (b.at a (.code c :: .inLoop c :: k)) cs w) b k cs e a' w' := by
    intro d
    induction d with
    | zero =>
      intro j a w hd hj hI
      have hjn : j = n := by omega
      subst hjn
      obtain ⟨e, a₁, w₁, ⟨hne, hq⟩, harr⟩ := last a w hI b (.inLoop c :: k) cs
      cases e with
      | normal => exact absurd rfl hne
      | exit id => exact ⟨_, a₁, w₁, hq, .pass (x := .inLoop c) rfl (fun _ _ => .inl (by simp)) harr⟩
      | goto l => exact ⟨_, a₁, w₁, hq, .pass (x := .inLoop c) rfl (fun _ _ => .inl (by simp)) harr⟩
      | ret => exact ⟨_, a₁, w₁, hq, .pass (x := .inLoop c) rfl (fun _ _ => .inl (by simp)) harr⟩
      | panic ch => exact ⟨_, a₁, w₁, hq, .pass (x := .inLoop c) rfl (fun _ _ => .inl (by simp)) harr⟩
      | outgrown => exact ⟨_, a₁, w₁, hq, .pass (x := .inLoop c) rfl (fun _ _ => .inl (by simp)) harr⟩
    | succ d ih =>
      intro j a w hd hj hI
      obtain ⟨e, a₁, w₁, ⟨rfl, hI₁⟩, harr⟩ := round j a w (by omega) hI b (.inLoop c :: k) cs
      obtain ⟨e₂, a₂, w₂, hq₂, harr₂⟩ := ih (j + 1) a₁ w₁ (by omega) (by omega) hI₁
      exact ⟨e₂, a₂, w₂, hq₂, .of_steps (Steps.trans harr (.one step_inLoop)) harr₂⟩
  obtain ⟨e, a', w', hq, harr⟩ := key n 0 a w (by omega) (Nat.zero_le _) h0
  exact ⟨e, a', w', hq, .of_steps (.one step_loop) harr⟩

/-- A loop: n rounds, and then one that leaves it. -/
theorem Big.loop {c : Code} {e : AExit} (he : e ≠ .normal) (st : Nat → ASt) (n : Nat) {s' : ASt} (round : ∀ k, k < n → Big P M c (st k) .normal (st (k + 1))) (last : Big P M c (st n) e s') : Big P M (.loop c) (st 0) e s' := fun m a w r ht hd => by
  refine wp_loop_idx (fun k a1 w1 => ∃ m1, Tr M m (st 0).heap w m1 (st k).heap w1 ∧ TRel m1 (st k).heap (st k).tmps a1.tmps ∧ a1.defers = []) n ⟨m, .refl r, ht, hd⟩ ?_ ?_
  · rintro k a1 w1 hk ⟨m1, htr, ht1, hd1⟩
    refine wp_mono (round k hk m1 a1 w1 htr.rel ht1 hd1) ?_
    rintro e2 a2 w2 ⟨rfl, m2, htr2, ht2, hd2⟩
    exact ⟨rfl, m2, htr.trans htr2, ht2, hd2⟩
  · rintro a1 w1 ⟨m1, htr, ht1, hd1⟩
    refine wp_mono (last m1 a1 w1 htr.rel ht1 hd1) ?_
    rintro e2 a2 w2 ⟨rfl, m2, htr2, ht2, hd2⟩
    refine ⟨?_, rfl, m2, htr.trans htr2, ht2, hd2⟩
    cases e with
    | normal => exact absurd rfl he
    | exit id => simp [AExit.to]
    | ret => simp [AExit.to]

theorem Big.region {K : Fns} (hK : K.Sound P M) (cl : List Nat → List Nat) {id : Nat} {ops : Array Oper} {s s' : ASt} (h : rruns P M K cl ops (List.range ops.size) s = some s') : Big P M (.region id ops false) s .normal s' := fun m a w r ht hd =>
  wp_region (rruns_sound hK _ r ht hd h fun m' a' w' htr ht' hd' => ⟨rfl, m', htr, ht', hd'⟩)

end

end Go.Ab

namespace Go.Ab

/-- The operands that an operation's value hangs on. -/
def opnds : Op → List Operand
  | .move x | .assign x | .box _ x | .load _ x | .nilCheck x | .unOp _ _ x | .convert _ _ x | .sliceToArrayPointer _ x | .makeInterface _ x | .fieldAddr _ x _ | .field _ x _ | .extract x _ => [x]
  | .pick c a b => [c, a, b]
  | .build _ ps | .buildSlice _ _ ps => ps.toList.map (·.2)
  | .store _ a v | .binOp _ _ a v _ | .makeSlice _ a v | .indexAddr _ a v | .index _ a v => [a, v]
  | .makeFunc _ x y => x.toList ++ y.toList
  | .slice _ x l h m => x :: (l.toList ++ h.toList ++ m.toList)
  | .call ⟨.builtin _, xs, _⟩ => xs.toList
  | .call ⟨.value f, xs, _⟩ => f :: xs.toList
  | _ => []

theorem aparts_congr {ρ ρ' : Operand → Option Value} : ∀ (l : List (Nat × Operand)), (∀ x ∈ l.map (·.2), ρ x = ρ' x) → aparts ρ l = aparts ρ' l := by
  intro l
  induction l with
  | nil => intro _; rfl
  | cons p l ih =>
    intro h
    obtain ⟨i, x⟩ := p
    simp only [aparts]
    rw [h x (by simp), ih fun y hy => h y (by simp at hy ⊢; exact .inr hy)]

theorem avals_congr {ρ ρ' : Operand → Option Value} : ∀ (l : List Operand), (∀ x ∈ l, ρ x = ρ' x) → avals ρ l = avals ρ' l := by
  intro l
  induction l with
  | nil => intro _; rfl
  | cons x l ih =>
    intro h
    simp only [avals]
    rw [h x (by simp), ih fun y hy => h y (by simp [hy])]

theorem optv_congr {ρ ρ' : Operand → Option Value} {o : Option Operand} (h : ∀ x ∈ o.toList, ρ x = ρ' x) : pv.optv ρ o = pv.optv ρ' o := by
  cases o with
  | none => rfl
  | some x => simp only [pv.optv]; rw [h x (by simp)]

theorem pv_congr {P : Program} {ρ ρ' : Operand → Option Value} : ∀ (op : Op), (∀ x ∈ opnds op, ρ x = ρ' x) → pv P ρ op = pv P ρ' op := by
  intro op h
  unfold pv
  split <;> simp only [opnds, List.mem_cons, List.not_mem_nil, or_false, forall_eq, forall_eq_or_imp, List.mem_append] at h
  case h_4 => rw [aparts_congr _ h]
  case h_11 => rw [avals_congr _ fun x hx => h x (.inl hx), avals_congr _ fun x hx => h x (.inr hx)]
  case h_17 =>
    obtain ⟨h1, h2⟩ := h
    rw [h1, optv_congr fun x hx => h2 x (.inl (.inl hx)), optv_congr fun x hx => h2 x (.inl (.inr hx))]
  all_goals first
    | rfl
    | (rw [h])
    | (obtain ⟨h1, h2⟩ := h; rw [h1, h2])
    | (obtain ⟨h1, h2, h3⟩ := h; rw [h1, h2, h3])
    | (simp_all)

theorem opAct_congr {P : Program} {M : Mem} {K : Fns} {cl : List Nat → List Nat} {ρ ρ' : Operand → Option Value} : ∀ (op : Op), (∀ x ∈ opnds op, ρ x = ρ' x) → opAct P M K cl ρ op = opAct P M K cl ρ' op := by
  intro op h
  have hp := pv_congr (P := P) op h
  unfold opAct
  split <;> simp only [opnds, List.mem_cons, List.not_mem_nil, or_false, forall_eq, forall_eq_or_imp, List.mem_append] at h
  case h_5 => rw [aparts_congr _ h]
  case h_7 =>
    obtain ⟨h1, h2⟩ := h
    rw [h1, optv_congr fun x hx => h2 x (.inl (.inl hx)), optv_congr fun x hx => h2 x (.inl (.inr hx)), optv_congr fun x hx => h2 x (.inr hx), hp]
  case h_8 => rw [h, hp]
  case h_11 =>
    obtain ⟨h1, h2⟩ := h
    rw [h1, avals_congr _ h2]
  all_goals first
    | rfl
    | (rw [hp]; done)
    | (rw [h]; done)
    | (rw [h, hp])
    | (obtain ⟨h1, h2⟩ := h; rw [h1, h2])
    | (simp_all)

/-- Writes, one behind the other. -/
def hsets (h : AHeap) : List (Nat × AObj) → AHeap
  | [] => h
  | (i, o) :: r => hsets (h.set i (some o)) r

theorem hsets_length : ∀ (ws : List (Nat × AObj)) (h : AHeap), (hsets h ws).length = h.length := by
  intro ws
  induction ws with
  | nil => intro h; rfl
  | cons p r ih => intro h; obtain ⟨i, o⟩ := p; simp only [hsets]; rw [ih, List.length_set]

theorem hsets_append : ∀ (a b : List (Nat × AObj)) (h : AHeap), hsets h (a ++ b) = hsets (hsets h a) b := by
  intro a
  induction a with
  | nil => intro b h; rfl
  | cons p r ih => intro b h; obtain ⟨i, o⟩ := p; simp only [List.cons_append, hsets]; exact ih b _

theorem hsets_set_comm : ∀ (ws : List (Nat × AObj)) (h : AHeap) (i : Nat) (o : Option AObj), i ∉ ws.map (·.1) → hsets (h.set i o) ws = (hsets h ws).set i o := by
  intro ws
  induction ws with
  | nil => intro h i o _; rfl
  | cons p r ih =>
    intro h i o hi
    obtain ⟨j, q⟩ := p
    simp only [List.map_cons, List.mem_cons, not_or] at hi
    simp only [hsets]
    rw [List.set_comm _ _ hi.1, ih _ i o hi.2]

theorem hsets_comm : ∀ (a b : List (Nat × AObj)) (h : AHeap), (∀ i ∈ a.map (·.1), i ∉ b.map (·.1)) → hsets (hsets h a) b = hsets (hsets h b) a := by
  intro a
  induction a with
  | nil => intro b h _; rfl
  | cons p r ih =>
    intro b h hd
    obtain ⟨i, o⟩ := p
    simp only [hsets]
    rw [ih b _ fun k hk => hd k (by simp at hk ⊢; exact .inr hk), hsets_set_comm b h i _ (hd i (by simp))]

theorem hget_hsets : ∀ (ws : List (Nat × AObj)) (h : AHeap) (k : Nat), k ∉ ws.map (·.1) → hget (hsets h ws) k = hget h k := by
  intro ws
  induction ws with
  | nil => intro h k _; rfl
  | cons p r ih =>
    intro h k hk
    obtain ⟨i, o⟩ := p
    simp only [List.map_cons, List.mem_cons, not_or] at hk
    simp only [hsets]
    rw [ih _ k hk.2, hget_set_ne fun e => hk.1 e.symm]

theorem gather_congr : ∀ (L : List Nat) (h h' : AHeap), (∀ i ∈ L, hget h i = hget h' i) → gather h L = gather h' L := by
  intro L
  induction L with
  | nil => intro h h' _; rfl
  | cons i r ih =>
    intro h h' he
    simp only [gather]
    rw [he i (by simp), ih h h' fun k hk => he k (by simp [hk])]

theorem scatter_sets : ∀ (L : List Nat) (os : List AObj) (h : AHeap), scatter h L os = hsets h (L.zip os) := by
  intro L
  induction L with
  | nil => intro os h; cases os <;> rfl
  | cons i r ih =>
    intro os h
    cases os with
    | nil => rfl
    | cons o os => simp only [scatter, List.zip_cons_cons, hsets]; exact ih os _

def zipF (b : Nat) : List AObj → List (Nat × AObj)
  | [] => []
  | o :: r => (b, o) :: zipF (b + 1) r

theorem zipF_ids : ∀ (ns : List AObj) (b : Nat), (zipF b ns).map (·.1) = List.range' b ns.length := by
  intro ns
  induction ns with
  | nil => intro b; rfl
  | cons o r ih => intro b; simp [zipF, ih, List.range'_succ]

theorem place_sets : ∀ (ns : List AObj) (h : AHeap) (b : Nat), b + ns.length ≤ h.length → place h b ns = hsets h (zipF b ns) := by
  intro ns
  induction ns with
  | nil => intro h b _; rfl
  | cons o r ih =>
    intro h b hb
    simp only [List.length_cons] at hb
    simp only [place, zipF, hsets, hput]
    rw [if_pos (by omega)]
    exact ih _ _ (by rw [List.length_set]; omega)

theorem run_sets {x : AAct} {b : Nat} {h h' : AHeap} {v : Value} (hr : x.run b h = some (v, h')) (hl : b + x.cnt b h ≤ h.length) :
    ∃ rs os os' ns, gather h x.rd = some rs ∧ gather h x.wt = some os ∧ x.f b rs os = some (v, os', ns) ∧ x.cnt b h = ns.length ∧ h' = hsets h (x.wt.zip os' ++ zipF b ns) := by
  unfold AAct.run at hr
  split at hr
  · rename_i rs os hg1 hg2
    split at hr
    · rename_i v1 os1 ns1 hf
      cases hr
      have hc : x.cnt b h = ns1.length := by simp [AAct.cnt, hg1, hg2, hf]
      refine ⟨rs, os, os1, ns1, hg1, hg2, hf, hc, ?_⟩
      rw [hsets_append, ← scatter_sets, place_sets]
      rw [scatter_sets, hsets_length]
      omega
    · cases hr
  · cases hr

theorem run_of_sets {x : AAct} {b : Nat} {h : AHeap} {v : Value} {rs os os' ns : List AObj} (h1 : gather h x.rd = some rs) (h2 : gather h x.wt = some os) (hf : x.f b rs os = some (v, os', ns)) (hl : b + ns.length ≤ h.length) :
    x.run b h = some (v, hsets h (x.wt.zip os' ++ zipF b ns)) ∧ x.cnt b h = ns.length := by
  refine ⟨?_, by simp [AAct.cnt, h1, h2, hf]⟩
  simp only [AAct.run, h1, h2, hf]
  rw [hsets_append, ← scatter_sets, place_sets]
  rw [scatter_sets, hsets_length]
  exact hl

/-- What an operation touched: objects read, objects turned, its new numbers. -/
structure FP where
  rd : List Nat
  wt : List Nat
  b : Nat
  k : Nat

def FP.wr (p : FP) : List Nat := p.wt ++ List.range' p.b p.k

def disj (a b : List Nat) : Bool := a.all fun i => !b.contains i

theorem disj_mem {a b : List Nat} (h : disj a b = true) {i : Nat} (hi : i ∈ a) : i ∉ b := by
  have := List.all_eq_true.1 h i hi
  simpa using this

theorem act_swap {y x : AAct} {fy fx : FP} {h h1 h2 : AHeap} {vy vx : Value} (ey : fy.rd = y.rd ∧ fy.wt = y.wt) (ex : fx.rd = x.rd ∧ fx.wt = x.wt)
    (hy : y.run fy.b h = some (vy, h1)) (hyc : y.cnt fy.b h = fy.k) (hx : x.run fx.b h1 = some (vx, h2)) (hxc : x.cnt fx.b h1 = fx.k) (ly : fy.b + fy.k ≤ h.length) (lx : fx.b + fx.k ≤ h.length)
    (d1 : disj fy.wr (fx.rd ++ fx.wr) = true) (d2 : disj fx.wr fy.rd = true) :
    ∃ h1', x.run fx.b h = some (vx, h1') ∧ x.cnt fx.b h = fx.k ∧ y.run fy.b h1' = some (vy, h2) ∧ y.cnt fy.b h1' = fy.k ∧ h1'.length = h.length := by
  obtain ⟨rs, os, os', ns, a1, a2, a3, a4, a5⟩ := run_sets hy (by omega)
  subst a5
  obtain ⟨rs2, os2, os2', ns2, b1, b2, b3, b4, b5⟩ := run_sets hx (by rw [hsets_length]; omega)
  have idy : ∀ i ∈ (y.wt.zip os' ++ zipF fy.b ns).map (·.1), i ∈ fy.wr := fun i hi => by
    rw [List.map_append, zipF_ids] at hi
    simp only [FP.wr, List.mem_append, ey.2]
    rcases List.mem_append.1 hi with h3 | h3
    · obtain ⟨p, hp, rfl⟩ := List.mem_map.1 h3
      exact .inl (List.of_mem_zip hp).1
    · exact .inr (by rw [← hyc, a4]; exact h3)
  have idx' : ∀ i ∈ (x.wt.zip os2' ++ zipF fx.b ns2).map (·.1), i ∈ fx.wr := fun i hi => by
    rw [List.map_append, zipF_ids] at hi
    simp only [FP.wr, List.mem_append, ex.2]
    rcases List.mem_append.1 hi with h3 | h3
    · obtain ⟨p, hp, rfl⟩ := List.mem_map.1 h3
      exact .inl (List.of_mem_zip hp).1
    · exact .inr (by rw [← hxc, b4]; exact h3)
  have gx : ∀ i, i ∈ fx.rd ++ fx.wr → hget (hsets h (y.wt.zip os' ++ zipF fy.b ns)) i = hget h i := fun i hi => hget_hsets _ _ _ fun hm => disj_mem d1 (idy i hm) hi
  have c1 : gather h x.rd = some rs2 := by
    rw [← b1]; exact gather_congr _ _ _ fun i hi => (gx i (List.mem_append.2 (.inl (by rw [ex.1]; exact hi)))).symm
  have c2 : gather h x.wt = some os2 := by
    rw [← b2]; exact gather_congr _ _ _ fun i hi => (gx i (List.mem_append.2 (.inr (by simp only [FP.wr, List.mem_append, ex.2]; exact .inl hi)))).symm
  obtain ⟨e1, e2⟩ := run_of_sets (x := x) (h := h) c1 c2 b3 (by omega)
  have gy : ∀ i, i ∈ fy.rd ++ fy.wt → hget (hsets h (x.wt.zip os2' ++ zipF fx.b ns2)) i = hget h i := fun i hi => hget_hsets _ _ _ fun hm => by
    have hxw := idx' i hm
    rcases List.mem_append.1 hi with h3 | h3
    · exact disj_mem d2 hxw h3
    · exact disj_mem d1 (i := i) (by simp only [FP.wr, List.mem_append]; exact .inl h3) (List.mem_append.2 (.inr hxw))
  have c3 : gather (hsets h (x.wt.zip os2' ++ zipF fx.b ns2)) y.rd = some rs := by
    rw [← a1]; exact gather_congr _ _ _ fun i hi => gy i (List.mem_append.2 (.inl (by rw [ey.1]; exact hi)))
  have c4 : gather (hsets h (x.wt.zip os2' ++ zipF fx.b ns2)) y.wt = some os := by
    rw [← a2]; exact gather_congr _ _ _ fun i hi => gy i (List.mem_append.2 (.inr (by rw [ey.2]; exact hi)))
  obtain ⟨f1, f2⟩ := run_of_sets (x := y) (b := fy.b) c3 c4 a3 (by rw [hsets_length]; omega)
  refine ⟨_, e1, by omega, ?_, by omega, hsets_length _ _⟩
  rw [f1, b5, hsets_comm _ _ h fun i hi hj => disj_mem d1 (idy i hi) (List.mem_append.2 (.inr (idx' i hj)))]

end Go.Ab

namespace Go.Ab

def tmpOf : Operand → List Tmp
  | .tmp t => [t]
  | _ => []

/-- The slots that an operation looks at. -/
def looks (ops : Array Oper) (o : Oper) : List Tmp :=
  (opnds o.op).flatMap tmpOf ++ (match o.guard with
    | some (j, _) => match ops[j]? with
      | some p => p.dst.toList
      | none => []
    | none => [])

def tapart (ops : Array Oper) (y x : Oper) : Bool :=
  (match y.dst with
   | some d => !(looks ops x).contains d && x.dst != some d
   | none => true) &&
  (match x.dst with
   | some d => !(looks ops y).contains d
   | none => true)

def indep (ops : Array Oper) (y : Oper) (fy : FP) (x : Oper) (fx : FP) : Bool :=
  tapart ops y x && disj fy.wr (fx.rd ++ fx.wr) && disj fx.wr fy.rd

theorem getD_set_ne' {l : List Value} {d t : Nat} {v u : Value} (h : d ≠ t) : (l.set d v).getD t u = l.getD t u := by
  simp [List.getD_eq_getElem?_getD, List.getElem?_set_ne h]

theorem aev_put {ts : List Value} {d : Option Tmp} {v : Value} {x : Operand} (h : ∀ t, d = some t → x ≠ .tmp t) : aev (aput ts d v) x = aev ts x := by
  cases d with
  | none => rfl
  | some t =>
    cases x with
    | tmp u => simp only [aev, aput]; rw [getD_set_ne' fun e => h t rfl (by rw [e])]
    | _ => rfl

theorem mem_looks {ops : Array Oper} {o : Oper} {t : Tmp} (h : .tmp t ∈ opnds o.op) : t ∈ looks ops o := by
  simp only [looks, List.mem_append, List.mem_flatMap]
  exact .inl ⟨_, h, by simp [tmpOf]⟩

theorem awanted_put {ops : Array Oper} {ts : List Value} {d : Option Tmp} {v : Value} {o : Oper} (h : ∀ t, d = some t → t ∉ looks ops o) : awanted ops (aput ts d v) o = awanted ops ts o := by
  cases d with
  | none => rfl
  | some t =>
    unfold awanted
    cases hg : o.guard with
    | none => rfl
    | some p =>
      obtain ⟨j, want⟩ := p
      have : ayield ops (aput ts (some t) v) j = ayield ops ts j := by
        unfold ayield
        cases hj : ops[j]? with
        | none => rfl
        | some q =>
          simp only
          cases hd : q.dst with
          | none => rfl
          | some e =>
            simp only [aput]
            have hne : t ≠ e := fun he => h t rfl (by
              subst he
              simp only [looks, hg, hj, hd, List.mem_append]
              exact .inr (by simp))
            rw [List.getElem?_set_ne hne]
      simp only [this]

section
variable (P : Program) (M : Mem) (K : Fns) (cl : List Nat → List Nat) (ops : Array Oper)

def ofp (b : Nat) (o : Oper) (s : ASt) : FP :=
  if awanted ops s.tmps o then match opAct P M K cl (aev s.tmps) o.op with
    | some act => ⟨act.rd, act.wt, b, act.cnt b s.heap⟩
    | none => ⟨[], [], b, 0⟩
  else ⟨[], [], b, 0⟩

/-- Operation i, with this footprint. -/
def St (fp : Nat → FP) (i : Nat) (s s' : ASt) : Prop :=
  ∃ o, ops[i]? = some o ∧ ostep P M K cl ops (fp i).b o s = some s' ∧ ofp P M K cl ops (fp i).b o s = fp i

inductive Runs (fp : Nat → FP) : List Nat → ASt → ASt → Prop
  | nil (s : ASt) : Runs fp [] s s
  | cons {i : Nat} {l : List Nat} {s s1 s2 : ASt} (h : St P M K cl ops fp i s s1) (t : Runs fp l s1 s2) : Runs fp (i :: l) s s2
end

section
variable {P : Program} {M : Mem} {K : Fns} {cl : List Nat → List Nat} {ops : Array Oper} {fp : Nat → FP}

theorem aput_comm {ts : List Value} {d e : Option Tmp} {v u : Value} (h : ∀ t, d = some t → e ≠ some t) : aput (aput ts d v) e u = aput (aput ts e u) d v := by
  cases d with
  | none => rfl
  | some t =>
    cases e with
    | none => rfl
    | some r =>
      simp only [aput]
      exact List.set_comm _ _ fun he => h t rfl (by rw [he])

theorem ofp_b (b : Nat) (o : Oper) (s : ASt) : (ofp P M K cl ops b o s).b = b := by
  unfold ofp; split
  · split <;> rfl
  · rfl

theorem ocnt_eq (b : Nat) (o : Oper) (s : ASt) : ocnt P M K cl ops b o s = (ofp P M K cl ops b o s).k := by
  unfold ocnt ofp; split
  · cases opAct P M K cl (aev s.tmps) o.op <;> rfl
  · rfl

/-- Two operations that touch different things change places. -/
theorem St.swap {y x : Nat} {oy ox : Oper} {s s1 s2 : ASt} (hoy : ops[y]? = some oy) (hox : ops[x]? = some ox) (hi : indep ops oy (fp y) ox (fp x) = true)
    (hy : St P M K cl ops fp y s s1) (hx : St P M K cl ops fp x s1 s2) (ly : (fp y).b + (fp y).k ≤ s.heap.length) (lx : (fp x).b + (fp x).k ≤ s.heap.length) :
    ∃ s1', St P M K cl ops fp x s s1' ∧ St P M K cl ops fp y s1' s2 ∧ s1'.heap.length = s.heap.length := by
  obtain ⟨oy', hoy', hys, hyf⟩ := hy
  rw [hoy] at hoy'; cases hoy'
  obtain ⟨ox', hox', hxs, hxf⟩ := hx
  rw [hox] at hox'; cases hox'
  simp only [indep, Bool.and_eq_true] at hi
  obtain ⟨⟨hta, hd1⟩, hd2⟩ := hi
  have t1 : ∀ t, oy.dst = some t → t ∉ looks ops ox ∧ ox.dst ≠ some t := fun t ht => by
    simp only [tapart, ht, Bool.and_eq_true, Bool.not_eq_true', List.contains_eq_mem, decide_eq_false_iff_not, bne_iff_ne] at hta
    exact hta.1
  have t2 : ∀ t, ox.dst = some t → t ∉ looks ops oy := fun t ht => by
    simp only [tapart, ht, Bool.and_eq_true, Bool.not_eq_true', List.contains_eq_mem, decide_eq_false_iff_not] at hta
    exact hta.2
  have wx : ∀ ts v, awanted ops (aput ts oy.dst v) ox = awanted ops ts ox := fun ts v => awanted_put fun t ht => (t1 t ht).1
  have wy : ∀ ts v, awanted ops (aput ts ox.dst v) oy = awanted ops ts oy := fun ts v => awanted_put fun t ht => t2 t ht
  have ax : ∀ ts v, opAct P M K cl (aev (aput ts oy.dst v)) ox.op = opAct P M K cl (aev ts) ox.op := fun ts v =>
    opAct_congr _ fun z hz => aev_put fun t ht e => (t1 t ht).1 (by subst e; exact mem_looks hz)
  have ay : ∀ ts v, opAct P M K cl (aev (aput ts ox.dst v)) oy.op = opAct P M K cl (aev ts) oy.op := fun ts v =>
    opAct_congr _ fun z hz => aev_put fun t ht e => t2 t ht (by subst e; exact mem_looks hz)
  have comm : ∀ ts v u, aput (aput ts ox.dst u) oy.dst v = aput (aput ts oy.dst v) ox.dst u := fun ts v u => (aput_comm fun t ht => (t1 t ht).2).symm
  unfold St
  unfold ostep at hys hxs ⊢
  unfold ofp at hyf hxf ⊢
  by_cases hwy : awanted ops s.tmps oy = true
  · rw [if_pos hwy] at hys hyf
    split at hys
    · rename_i acty hay
      rw [hay] at hyf
      split at hys
      · rename_i vy h1 hry
        cases hys
        simp only at hxs hxf hyf
        rw [wx, ax] at hxs hxf
        by_cases hwx : awanted ops s.tmps ox = true
        · rw [if_pos hwx] at hxs hxf
          split at hxs
          · rename_i actx hax
            rw [hax] at hxf
            split at hxs
            · rename_i vx h2 hrx
              cases hxs
              simp only at hxf
              have ey : (fp y).rd = acty.rd ∧ (fp y).wt = acty.wt := by rw [← hyf]; exact ⟨rfl, rfl⟩
              have ex : (fp x).rd = actx.rd ∧ (fp x).wt = actx.wt := by rw [← hxf]; exact ⟨rfl, rfl⟩
              have ky : acty.cnt (fp y).b s.heap = (fp y).k := congrArg FP.k hyf
              have kx : actx.cnt (fp x).b h1 = (fp x).k := congrArg FP.k hxf
              obtain ⟨h1', e1, e2, e3, e4, e5⟩ := act_swap ey ex hry ky hrx kx ly lx hd1 hd2
              refine ⟨⟨aput s.tmps ox.dst vx, h1'⟩, ⟨ox, hox, ?_, ?_⟩, ⟨oy, hoy, ?_, ?_⟩, e5⟩
              · rw [if_pos hwx, hax]; simp only [e1]
              · rw [if_pos hwx, hax]; simp only [e2]; rw [← hxf, kx]
              · simp only [wy, ay]
                rw [if_pos hwy, hay]; simp only [e3, comm]
              · simp only [wy, ay]
                rw [if_pos hwy, hay]; simp only [e4]; rw [← hyf, ky]
            · cases hxs
          · cases hxs
        · rw [if_neg hwx] at hxs hxf
          cases hxs
          refine ⟨⟨aput s.tmps ox.dst undef, s.heap⟩, ⟨ox, hox, ?_, ?_⟩, ⟨oy, hoy, ?_, ?_⟩, rfl⟩
          · rw [if_neg hwx]
          · rw [if_neg hwx]; exact hxf
          · simp only [wy, ay]
            rw [if_pos hwy, hay]; simp only [hry, comm]
          · simp only [wy, ay]
            rw [if_pos hwy, hay]; exact hyf
      · cases hys
    · cases hys
  · rw [if_neg hwy] at hys hyf
    cases hys
    simp only at hxs hxf
    rw [wx, ax] at hxs hxf
    by_cases hwx : awanted ops s.tmps ox = true
    · rw [if_pos hwx] at hxs hxf
      split at hxs
      · rename_i actx hax
        rw [hax] at hxf
        split at hxs
        · rename_i vx h2 hrx
          cases hxs
          obtain ⟨rs2, os2, os2', ns2, b1, b2, b3, b4, b5⟩ := run_sets hrx (by have := congrArg FP.k hxf; simp only at this; omega)
          refine ⟨⟨aput s.tmps ox.dst vx, h2⟩, ⟨ox, hox, ?_, ?_⟩, ⟨oy, hoy, ?_, ?_⟩, ?_⟩
          · rw [if_pos hwx, hax]; simp only [hrx]
          · rw [if_pos hwx, hax]; exact hxf
          · simp only [wy]
            rw [if_neg hwy]; simp only [comm]
          · simp only [wy]
            rw [if_neg hwy]; exact hyf
          · simp only [b5, hsets_length]
        · cases hxs
      · cases hxs
    · rw [if_neg hwx] at hxs hxf
      cases hxs
      refine ⟨⟨aput s.tmps ox.dst undef, s.heap⟩, ⟨ox, hox, ?_, ?_⟩, ⟨oy, hoy, ?_, ?_⟩, rfl⟩
      · rw [if_neg hwx]
      · rw [if_neg hwx]; exact hxf
      · simp only [wy]
        rw [if_neg hwy]; simp only [comm]
      · simp only [wy]
        rw [if_neg hwy]; exact hyf

theorem St.length {i : Nat} {s s1 : ASt} (h : St P M K cl ops fp i s s1) (l : (fp i).b + (fp i).k ≤ s.heap.length) : s1.heap.length = s.heap.length := by
  obtain ⟨o, ho, hs, hf⟩ := h
  unfold ostep at hs
  unfold ofp at hf
  by_cases hw : awanted ops s.tmps o = true
  · rw [if_pos hw] at hs hf
    split at hs
    · rename_i act hact
      rw [hact] at hf
      split at hs
      · rename_i v h1 hr
        cases hs
        obtain ⟨_, _, _, _, _, _, _, _, b5⟩ := run_sets hr (by have := congrArg FP.k hf; simp only at this; omega)
        simp only [b5, hsets_length]
      · cases hs
    · cases hs
  · rw [if_neg hw] at hs
    cases hs
    rfl

/-- The operation x may come first. -/
theorem Runs.pull {n : Nat} {x : Nat} {ox : Oper} (hox : ops[x]? = some ox) : ∀ (T1 T2 : List Nat) {s s2 : ASt}, Runs P M K cl ops fp (T1 ++ x :: T2) s s2 → s.heap.length = n → (∀ i ∈ T1 ++ x :: T2, (fp i).b + (fp i).k ≤ n) →
    (∀ y ∈ T1, ∀ oy, ops[y]? = some oy → indep ops oy (fp y) ox (fp x) = true) →
    ∃ s1, St P M K cl ops fp x s s1 ∧ Runs P M K cl ops fp (T1 ++ T2) s1 s2 ∧ s1.heap.length = n := by
  intro T1
  induction T1 with
  | nil =>
    intro T2 s s2 h hn hl _
    cases h with
    | cons h t => exact ⟨_, h, t, by rw [h.length (by rw [hn]; exact hl x (by simp)), hn]⟩
  | cons y T1 ih =>
    intro T2 s s2 h hn hl hi
    cases h with
    | cons h t =>
      rename_i sy
      have hny : sy.heap.length = n := by rw [h.length (by rw [hn]; exact hl y (by simp)), hn]
      obtain ⟨s1, g1, g2, g3⟩ := ih T2 t hny (fun i hm => hl i (by simp at hm ⊢; exact .inr hm)) (fun z hz => hi z (by simp [hz]))
      obtain ⟨oy, hoy, _⟩ := id h
      obtain ⟨s1', k1, k2, k3⟩ := St.swap hoy hox (hi y (by simp) oy hoy) h g1 (by rw [hn]; exact hl y (by simp)) (by rw [hn]; exact hl x (by simp))
      exact ⟨s1', k1, .cons k2 g2, by rw [k3, hn]⟩

end

end Go.Ab

namespace Go.Ab

def unionN (a b : List Nat) : List Nat := b.foldl addN a

/-- What comes before each operation, by the edges, through others too. -/
def befs : List Oper → List (List Nat) → List (List Nat)
  | [], acc => acc
  | o :: r, acc => befs r (acc ++ [o.after.toList.foldl (fun l e => if Region.binds .any e then unionN (addN l e.on) (acc.getD e.on []) else l) []])

def okEdges (ops : Array Oper) : Bool := (List.range ops.size).all fun j => match ops[j]? with
  | some o => o.after.toList.all fun e => !Region.binds .any e || decide (e.on < j)
  | none => true

def fpAt (fps : List FP) (i : Nat) : FP := fps.getD i ⟨[], [], 0, 0⟩

def okPairs (ops : Array Oper) (pr : List (List Nat)) (fps : List FP) : Bool := (List.range ops.size).all fun j => (List.range j).all fun i => (pr.getD j []).contains i ||
  match ops[i]?, ops[j]? with
  | some oi, some oj => indep ops oi (fpAt fps i) oj (fpAt fps j)
  | _, _ => true

section
variable (P : Program) (M : Mem) (K : Fns) (cl : List Nat → List Nat) (ops : Array Oper)

def rtrace : List Nat → ASt → Option (ASt × List FP)
  | [], s => some (s, [])
  | i :: l, s => match ops[i]? with
    | none => none
    | some o => match ostep P M K cl ops s.heap.length o s with
      | some s' => match rtrace l s' with
        | some (s2, fps) => some (s2, ofp P M K cl ops s.heap.length o s :: fps)
        | none => none
      | none => none

/-- In the text's order, where every order gives the same. -/
def rdraw (s : ASt) : Option ASt :=
  match rtrace P M K cl ops (List.range ops.size) s with
  | some (s', fps) => if okEdges ops && okPairs ops (befs ops.toList []) fps then some s' else none
  | none => none
end

section
variable {P : Program} {M : Mem} {K : Fns} {cl : List Nat → List Nat} {ops : Array Oper}

theorem mem_addN {l : List Nat} {i k : Nat} (h : k ∈ addN l i) : k ∈ l ∨ k = i := by
  unfold addN at h
  split at h
  · exact .inl h
  · rcases List.mem_append.1 h with h | h
    · exact .inl h
    · exact .inr (by simpa using h)

theorem mem_unionN {b : List Nat} : ∀ {a : List Nat} {k : Nat}, k ∈ unionN a b → k ∈ a ∨ k ∈ b := by
  induction b with
  | nil => intro a k h; exact .inl h
  | cons i r ih =>
    intro a k h
    rcases ih h with h1 | h1
    · rcases mem_addN h1 with h2 | h2
      · exact .inl h2
      · exact .inr (by simp [h2])
    · exact .inr (by simp [h1])

/-- What is listed, with all that comes before it. -/
def Closed (ops : Array Oper) (listed : Array Bool) : Prop := ∀ j o, listed.getD j false = true → ops[j]? = some o → ∀ e ∈ o.after, Region.binds .any e = true → listed.getD e.on false = true

theorem befs_sound {listed : Array Bool} (hc : Closed ops listed) (hE : okEdges ops = true) : ∀ (r : List Oper) (acc : List (List Nat)), (∀ (i : Nat) (o : Oper), r[i]? = some o → ops[acc.length + i]? = some o) →
    (∀ (j : Nat) (l : List Nat), acc[j]? = some l → ∀ (o : Oper), ops[j]? = some o → (∀ e ∈ o.after, Region.binds .any e = true → listed.getD e.on false = true) → ∀ y ∈ l, listed.getD y false = true) →
    ∀ (j : Nat) (l : List Nat), (befs r acc)[j]? = some l → ∀ (o : Oper), ops[j]? = some o → (∀ e ∈ o.after, Region.binds .any e = true → listed.getD e.on false = true) → ∀ y ∈ l, listed.getD y false = true := by
  intro r
  induction r with
  | nil => intro acc _ h; exact h
  | cons o r ih =>
    intro acc hr h
    simp only [befs]
    refine ih _ (fun i p hp => ?_) (fun j l hl => ?_)
    · rw [List.length_append, List.length_singleton, show acc.length + 1 + i = acc.length + (i + 1) by omega]
      exact hr (i + 1) p (by simpa using hp)
    · rw [List.getElem?_append] at hl
      split at hl
      · exact h j l hl
      · rename_i hge
        intro q hq hall y hy
        have hj : j = acc.length := by
          have := (List.getElem?_eq_some_iff.1 hl).1
          simp at this; omega
        subst hj
        have hqo : q = o := by
          have := hr 0 o rfl
          rw [Nat.add_zero, hq] at this
          cases this; rfl
        subst hqo
        simp only [Nat.sub_self, List.getElem?_cons_zero, Option.some.injEq] at hl
        subst hl
        have hedge : ∀ e ∈ q.after, Region.binds .any e = true → e.on < acc.length := fun e he hb => by
          have h1 := List.all_eq_true.1 hE acc.length (List.mem_range.2 ((Array.getElem?_eq_some_iff.1 hq).1))
          simp only [hq] at h1
          have h2 := List.all_eq_true.1 h1 e (Array.mem_toList_iff.2 he)
          simpa [hb] using h2
        have fold : ∀ (es : List Edge) (l0 : List Nat), (∀ e ∈ es, e ∈ q.after) → (∀ z ∈ l0, listed.getD z false = true) →
            ∀ z ∈ es.foldl (fun l e => if Region.binds .any e then unionN (addN l e.on) (acc.getD e.on []) else l) l0, listed.getD z false = true := by
          intro es
          induction es with
          | nil => intro l0 _ h0; exact h0
          | cons e es ihe =>
            intro l0 he h0
            simp only [List.foldl_cons]
            refine ihe _ (fun x hx => he x (by simp [hx])) fun z hz => ?_
            split at hz
            · rename_i hb
              have heq := he e (by simp)
              have hlis := hall e heq hb
              rcases mem_unionN hz with h1 | h1
              · rcases mem_addN h1 with h2 | h2
                · exact h0 z h2
                · rw [h2]; exact hlis
              · have hlt := hedge e heq hb
                have hlo : ∃ p, ops[e.on]? = some p := by
                  have h3 := (Array.getElem?_eq_some_iff.1 hq).1
                  exact ⟨ops[e.on], Array.getElem?_eq_getElem (by omega)⟩
                obtain ⟨p, hp⟩ := hlo
                rw [List.getD_eq_getElem?_getD, List.getElem?_eq_getElem hlt] at h1
                exact h e.on acc[e.on] (List.getElem?_eq_getElem hlt) p hp (hc e.on p hlis hp) z h1
            · exact h0 z hz
        exact fold q.after.toList [] (fun e he => Array.mem_toList_iff.1 he) (fun z hz => by simp at hz) y hy

theorem befs_length : ∀ (r : List Oper) (acc : List (List Nat)), (befs r acc).length = acc.length + r.length := by
  intro r
  induction r with
  | nil => intro acc; rfl
  | cons o r ih => intro acc; simp only [befs]; rw [ih]; simp; omega

/-- What comes before an operation is listed, if what its edges name is. -/
theorem befs_listed {listed : Array Bool} (hc : Closed ops listed) (hE : okEdges ops = true) {x y : Nat} {ox : Oper} (hx : ops[x]? = some ox) (hall : ∀ e ∈ ox.after, Region.binds .any e = true → listed.getD e.on false = true)
    (hy : ((befs ops.toList []).getD x []).contains y = true) : listed.getD y false = true := by
  have hlt := (Array.getElem?_eq_some_iff.1 hx).1
  have hl : x < (befs ops.toList []).length := by rw [befs_length]; simpa using hlt
  rw [List.getD_eq_getElem?_getD, List.getElem?_eq_getElem hl] at hy
  exact befs_sound hc hE ops.toList [] (fun i o hi => by simpa using hi) (fun j l hj => by simp at hj) x _ (List.getElem?_eq_getElem hl) ox hx hall y (by simpa using hy)

theorem St.writes {fp : Nat → FP} {i : Nat} {s s1 : ASt} (h : St P M K cl ops fp i s s1) (l : (fp i).b + (fp i).k ≤ s.heap.length) :
    (∀ k, k ∉ (fp i).wr → hget s1.heap k = hget s.heap k) ∧ ∀ k ∈ (fp i).wt, ∃ o, hget s.heap k = some o := by
  obtain ⟨o, ho, hs, hf⟩ := h
  unfold ostep at hs
  unfold ofp at hf
  by_cases hw : awanted ops s.tmps o = true
  · rw [if_pos hw] at hs hf
    split at hs
    · rename_i act hact
      rw [hact] at hf
      split at hs
      · rename_i v h1 hr
        cases hs
        have hk := congrArg FP.k hf
        have hwt := congrArg FP.wt hf
        simp only at hk hwt
        obtain ⟨rs, os, os', ns, a1, a2, a3, a4, b5⟩ := run_sets hr (by omega)
        refine ⟨fun k hkn => ?_, fun k hkm => ?_⟩
        · simp only [b5]
          refine hget_hsets _ _ _ fun hm => hkn ?_
          rw [List.map_append, zipF_ids] at hm
          simp only [FP.wr, List.mem_append]
          rcases List.mem_append.1 hm with h3 | h3
          · obtain ⟨p, hp, rfl⟩ := List.mem_map.1 h3
            exact .inl (by rw [← hwt]; exact (List.of_mem_zip hp).1)
          · exact .inr (by rw [← hk, a4]; exact h3)
        · rw [← hwt] at hkm
          obtain ⟨j, hj, rfl⟩ := List.getElem_of_mem hkm
          obtain ⟨o, _, ho⟩ := (gather_get a2).2 j _ (List.getElem?_eq_getElem hj)
          exact ⟨o, ho⟩
      · cases hs
    · cases hs
  · rw [if_neg hw] at hs hf
    cases hs
    refine ⟨fun _ _ => rfl, fun k hk => ?_⟩
    have := congrArg FP.wt hf
    simp only at this
    rw [← this] at hk
    simp at hk

theorem any_sound (hK : K.Sound P M) (hE : okEdges ops = true) {fps : List FP} (hP : okPairs ops (befs ops.toList []) fps = true) {n : Nat}
    (hn : ∀ i, i < ops.size → (fpAt fps i).b + (fpAt fps i).k ≤ n) (hR : ∀ i j, i < j → j < ops.size → (fpAt fps i).b + (fpAt fps i).k ≤ (fpAt fps j).b) {Q : Exit → Go.Act → World → Prop} {se : ASt} :
    ∀ (fuel : Nat) (listed : Array Bool) (T : List Nat) {m : Pl} {s : ASt} {w : World} {a : Go.Act}, T.length ≤ fuel → listed.size = ops.size → (∀ j, j ∈ T ↔ j < ops.size ∧ listed.getD j false = false) → T.Pairwise (· < ·) → Closed ops listed →
      Runs P M K cl ops (fpAt fps) T s se → s.heap.length = n → (∀ j ∈ T, ∀ k, k < (fpAt fps j).k → hget s.heap ((fpAt fps j).b + k) = none) →
      HRel M m s.heap w → TRel m s.heap s.tmps a.tmps → a.defers = [] →
      (∀ m' a' w', Tr M m s.heap w m' se.heap w' → TRel m' se.heap se.tmps a'.tmps → a'.defers = [] → Q .normal a' w') → wpAny P .any ops Q fuel listed a w := by
  intro fuel
  induction fuel with
  | zero =>
    intro listed T m s w a hf hls hT hs hc hr hlen hroom r ht hd hk
    have hT0 : T = [] := List.eq_nil_of_length_eq_zero (by omega)
    subst hT0
    cases hr
    refine ⟨List.eq_nil_iff_forall_not_mem.2 fun j hj => ?_, hk m a w (.refl r) ht hd⟩
    obtain ⟨h1, o, h2, _⟩ := mem_ready.1 hj
    have hjl := (Array.getElem?_eq_some_iff.1 h2).1
    have : j ∈ ([] : List Nat) := (hT j).2 ⟨hjl, by
      have : j < listed.size := by omega
      simp [this] at h1 ⊢; exact h1⟩
    simp at this
  | succ fuel ih =>
    intro listed T m s w a hf hls hT hs hc hr hlen hroom r ht hd hk
    have getD_tf : ∀ j, j < ops.size → listed.getD j true = listed.getD j false := fun j hj => by
      have : j < listed.size := by omega
      simp [this]
    refine ⟨fun hnil => ?_, fun i hi => ?_⟩
    · have hT0 : T = [] := by
        cases T with
        | nil => rfl
        | cons y T' =>
          exfalso
          have hy := (hT y).1 (by simp)
          have hoy : ops[y]? = some ops[y] := Array.getElem?_eq_getElem hy.1
          have : y ∈ Region.ready .any ops listed := mem_ready.2 ⟨by rw [getD_tf y hy.1]; exact hy.2, ops[y], hoy, fun e he hb => by
            have h1 := List.all_eq_true.1 hE y (List.mem_range.2 hy.1)
            simp only [hoy] at h1
            have h2 := List.all_eq_true.1 h1 e (Array.mem_toList_iff.2 he)
            have hlt : e.on < y := by simpa [hb] using h2
            cases hl : listed.getD e.on false with
            | true => rfl
            | false =>
              have hm := (hT e.on).2 ⟨by omega, hl⟩
              rcases List.mem_cons.1 hm with h3 | h3
              · omega
              · have := (List.pairwise_cons.1 hs).1 e.on h3; omega⟩
          rw [hnil] at this; simp at this
      subst hT0
      cases hr
      exact hk m a w (.refl r) ht hd
    · obtain ⟨h1, o, ho, hall⟩ := mem_ready.1 hi
      have hil := (Array.getElem?_eq_some_iff.1 ho).1
      have hiT : i ∈ T := (hT i).2 ⟨hil, by rw [← getD_tf i hil]; exact h1⟩
      obtain ⟨T1, T2, rfl⟩ := List.append_of_mem hiT
      have hall' : ∀ e ∈ o.after, Region.binds .any e = true → listed.getD e.on false = true := hall
      have hsp := List.pairwise_append.1 hs
      have hind : ∀ y ∈ T1, ∀ oy, ops[y]? = some oy → indep ops oy (fpAt fps y) o (fpAt fps i) = true := fun y hy oy hoy => by
        have hlt : y < i := hsp.2.2 y hy i (by simp)
        have h2 := List.all_eq_true.1 hP i (List.mem_range.2 hil)
        have h3 := List.all_eq_true.1 h2 y (List.mem_range.2 hlt)
        simp only [hoy, ho, Bool.or_eq_true] at h3
        rcases h3 with h3 | h3
        · have := befs_listed hc hE ho hall' h3
          have hy' := ((hT y).1 (by simp [hy])).2
          rw [hy'] at this; cases this
        · exact h3
      have hnb : ∀ j ∈ T1 ++ i :: T2, (fpAt fps j).b + (fpAt fps j).k ≤ n := fun j hj => hn j ((hT j).1 hj).1
      obtain ⟨s1, hst, hruns, hlen1⟩ := Runs.pull ho T1 T2 hr hlen hnb hind
      obtain ⟨hw1, hw2⟩ := hst.writes (by rw [hlen]; exact hnb i hiT)
      obtain ⟨o', ho', hos, hof⟩ := hst
      rw [ho] at ho'; cases ho'
      have hT' : ∀ j, j ∈ T1 ++ T2 ↔ j < ops.size ∧ (listed.setIfInBounds i true).getD j false = false := fun j => by
        have hnd : i ∉ T1 ∧ i ∉ T2 := ⟨fun h => by have := hsp.2.2 i h i (by simp); omega, fun h => by have := (List.pairwise_cons.1 hsp.2.1).1 i h; omega⟩
        have hj := hT j
        simp only [List.mem_append, List.mem_cons] at hj ⊢
        by_cases hji : j = i
        · subst hji
          have : j < listed.size := by omega
          simp [this, hnd.1, hnd.2]
        · rw [getD_set_ne false fun e => hji e.symm]
          rw [← hj]
          simp [hji]
      have hs' : (T1 ++ T2).Pairwise (· < ·) := List.pairwise_append.2 ⟨hsp.1, (List.pairwise_cons.1 hsp.2.1).2, fun x hx y hy => hsp.2.2 x hx y (by simp [hy])⟩
      have hc' : Closed ops (listed.setIfInBounds i true) := fun j p hj hp e he hb => by
        by_cases hji : j = i
        · subst hji
          rw [ho] at hp; cases hp
          exact getD_set_true (hall' e he hb)
        · rw [getD_set_ne false fun e => hji e.symm] at hj
          exact getD_set_true (hc j p hj hp e he hb)
      have hroom' : ∀ j ∈ T1 ++ T2, ∀ k, k < (fpAt fps j).k → hget s1.heap ((fpAt fps j).b + k) = none := fun j hj k hkk => by
        have hjT : j ∈ T1 ++ i :: T2 := by
          rcases List.mem_append.1 hj with h | h
          · exact List.mem_append.2 (.inl h)
          · exact List.mem_append.2 (.inr (by simp [h]))
        have hnone := hroom j hjT k hkk
        rw [hw1 _ fun hm => ?_]
        · exact hnone
        · rcases List.mem_append.1 hm with h | h
          · obtain ⟨p, hp⟩ := hw2 _ h
            rw [hnone] at hp; cases hp
          · rw [List.mem_range'_1] at h
            have hjl := ((hT j).1 hjT).1
            have hne : j ≠ i := fun e => by
              subst e
              rcases List.mem_append.1 hj with h | h
              · have := hsp.2.2 j h j (by simp); omega
              · have := (List.pairwise_cons.1 hsp.2.1).1 j h; omega
            rcases Nat.lt_or_gt_of_ne hne with hlt | hlt
            · have := hR j i hlt hil; omega
            · have := hR i j hlt hjl; omega
      unfold wpOp
      simp only [ho]
      refine ostep_sound hK r ht hd hos ⟨?_, fun k hk' => ?_⟩ fun m' a' w' htr ht' hd' => ?_
      · rw [hlen]; have := hn i hil; omega
      · rw [ocnt_eq, hof] at hk'
        exact hroom i hiT k hk'
      · refine ih (listed.setIfInBounds i true) (T1 ++ T2) (by simp at hf ⊢; omega) (by simpa using hls) hT' hs' hc' hruns hlen1 hroom' htr.rel ht' hd' fun m2 a2 w2 htr2 ht2 hd2 => hk m2 a2 w2 (htr.trans htr2) ht2 hd2

end

end Go.Ab

namespace Go.Ab

def holes (h : AHeap) (n : Nat) : AHeap := h ++ List.replicate (n - h.length) none

theorem hget_holes (h : AHeap) (n i : Nat) : hget (holes h n) i = hget h i := by
  unfold holes hget
  by_cases hi : i < h.length
  · rw [List.getElem?_append_left hi]
  · rw [List.getElem?_append_right (by omega), List.getElem?_eq_none (l := h) (by omega), List.getElem?_replicate]
    by_cases h2 : i - h.length < n - h.length
    · rw [if_pos h2]
    · rw [if_neg h2]

theorem holes_length {h : AHeap} {n : Nat} (hn : h.length ≤ n) : (holes h n).length = n := by simp [holes]; omega

theorem place_end : ∀ (ns : List AObj) (h : AHeap), place h h.length ns = h ++ ns.map some := by
  intro ns
  induction ns with
  | nil => intro h; simp [place]
  | cons o r ih =>
    intro h
    simp only [place]
    rw [hput_end]
    have := ih (h ++ [some o])
    rw [List.length_append, List.length_singleton] at this
    rw [this]
    simp

theorem place_holes : ∀ (ns : List AObj) (h : AHeap) (n : Nat), h.length + ns.length ≤ n → place (holes h n) h.length ns = holes (h ++ ns.map some) n := by
  intro ns
  induction ns with
  | nil => intro h n _; simp [place]
  | cons o r ih =>
    intro h n hn
    simp only [List.length_cons] at hn
    have hlt : h.length < (holes h n).length := by rw [holes_length (by omega)]; omega
    simp only [place, hput]
    rw [if_pos hlt]
    have : (holes h n).set h.length (some o) = holes (h ++ [some o]) n := by
      simp only [holes, List.length_append, List.length_singleton]
      rw [List.set_append, if_neg (Nat.lt_irrefl _), Nat.sub_self]
      have : n - h.length = (n - (h.length + 1)) + 1 := by omega
      rw [this, List.replicate_succ, List.set_cons_zero]
      simp
    rw [this]
    have h2 := ih (h ++ [some o]) n (by simp; omega)
    rw [List.length_append, List.length_singleton] at h2
    rw [h2]
    simp

theorem scatter_length : ∀ (L : List Nat) (os : List AObj) (h : AHeap), (scatter h L os).length = h.length := by
  intro L
  induction L with
  | nil => intro os h; cases os <;> rfl
  | cons i r ih => intro os h; cases os with
    | nil => rfl
    | cons o os => simp only [scatter]; rw [ih, List.length_set]

theorem scatter_holes : ∀ (L : List Nat) (os : List AObj) (h : AHeap) (n : Nat), (∀ i ∈ L, i < h.length) → scatter (holes h n) L os = holes (scatter h L os) n := by
  intro L
  induction L with
  | nil => intro os h n _; cases os <;> rfl
  | cons i r ih =>
    intro os h n hi
    cases os with
    | nil => rfl
    | cons o os =>
      simp only [scatter]
      have : (holes h n).set i (some o) = holes (h.set i (some o)) n := by
        simp only [holes, List.length_set]
        rw [List.set_append, if_pos (hi i (by simp))]
      rw [this]
      exact ih os _ n fun k hk => by rw [List.length_set]; exact hi k (by simp [hk])

theorem gather_lt : ∀ {L : List Nat} {h : AHeap} {os : List AObj}, gather h L = some os → ∀ i ∈ L, i < h.length := by
  intro L h os hg i hi
  obtain ⟨j, hj, rfl⟩ := List.getElem_of_mem hi
  obtain ⟨o, _, ho⟩ := (gather_get hg).2 j _ (List.getElem?_eq_getElem hj)
  exact hget_lt ho

theorem act_holes {x : AAct} {h h' : AHeap} {v : Value} {n : Nat} (hr : x.run h.length h = some (v, h')) (hn : h'.length ≤ n) :
    h'.length = h.length + x.cnt h.length h ∧ x.run h.length (holes h n) = some (v, holes h' n) ∧ x.cnt h.length (holes h n) = x.cnt h.length h := by
  unfold AAct.run at hr
  split at hr
  · rename_i rs os hg1 hg2
    split at hr
    · rename_i v1 os1 ns1 hf
      cases hr
      have hc : x.cnt h.length h = ns1.length := by simp [AAct.cnt, hg1, hg2, hf]
      have e1 : gather (holes h n) x.rd = some rs := by rw [← hg1]; exact gather_congr _ _ _ fun i _ => hget_holes h n i
      have e2 : gather (holes h n) x.wt = some os := by rw [← hg2]; exact gather_congr _ _ _ fun i _ => hget_holes h n i
      have hsl := scatter_length x.wt os1 h
      have hpe : place (scatter h x.wt os1) h.length ns1 = scatter h x.wt os1 ++ ns1.map some := by rw [← hsl]; exact place_end _ _
      rw [hpe] at hn ⊢
      simp only [List.length_append, List.length_map, hsl] at hn
      refine ⟨by simp only [List.length_append, List.length_map, hsl, hc], ?_, by rw [hc]; simp [AAct.cnt, e1, e2, hf]⟩
      simp only [AAct.run, e1, e2, hf]
      rw [scatter_holes _ _ _ _ (gather_lt hg2)]
      have := place_holes ns1 (scatter h x.wt os1) n (by rw [hsl]; exact hn)
      rw [hsl] at this
      rw [this]
    · cases hr
  · cases hr

section
variable {P : Program} {M : Mem} {K : Fns} {cl : List Nat → List Nat} {ops : Array Oper}

theorem ostep_holes {o : Oper} {s s' : ASt} {n : Nat} (hs : ostep P M K cl ops s.heap.length o s = some s') (hn : s'.heap.length ≤ n) :
    s'.heap.length = s.heap.length + (ofp P M K cl ops s.heap.length o s).k ∧ ostep P M K cl ops s.heap.length o ⟨s.tmps, holes s.heap n⟩ = some ⟨s'.tmps, holes s'.heap n⟩ ∧
      ofp P M K cl ops s.heap.length o ⟨s.tmps, holes s.heap n⟩ = ofp P M K cl ops s.heap.length o s := by
  unfold ostep at hs ⊢
  unfold ofp
  by_cases hw : awanted ops s.tmps o = true
  · rw [if_pos hw] at hs
    simp only [hw, if_true]
    split at hs
    · rename_i act hact
      split at hs
      · rename_i v h1 hr
        cases hs
        obtain ⟨a1, a2, a3⟩ := act_holes hr hn
        simp only [hact, a2, a3]
        exact ⟨a1, trivial, trivial⟩
      · cases hs
    · cases hs
  · rw [if_neg hw] at hs
    cases hs
    simp [hw]

theorem rtrace_runs {n : Nat} {all : List FP} : ∀ (c a : Nat) {s s' : ASt} {fps : List FP}, rtrace P M K cl ops (List.range' a c) s = some (s', fps) → s'.heap.length ≤ n → (∀ (j : Nat), fps[j]? = all[a + j]? ∨ fps.length ≤ j) →
    fps.length = c ∧ s.heap.length ≤ s'.heap.length ∧ Runs P M K cl ops (fpAt all) (List.range' a c) ⟨s.tmps, holes s.heap n⟩ ⟨s'.tmps, holes s'.heap n⟩ ∧
    (∀ j, j < c → s.heap.length ≤ (fpAt all (a + j)).b ∧ (fpAt all (a + j)).b + (fpAt all (a + j)).k ≤ s'.heap.length) ∧
    (∀ i j, i < j → j < c → (fpAt all (a + i)).b + (fpAt all (a + i)).k ≤ (fpAt all (a + j)).b) := by
  intro c
  induction c with
  | zero => intro a s s' fps h hn _; cases h; exact ⟨rfl, Nat.le_refl _, .nil _, fun j hj => by omega, fun i j _ hj => by omega⟩
  | succ c ih =>
    intro a s s' fps h hn hall
    rw [List.range'_succ] at h
    simp only [rtrace] at h
    split at h
    · cases h
    · rename_i o ho
      split at h
      · rename_i s1 h1
        split at h
        · rename_i s2 fps2 h2
          cases h
          obtain ⟨b1, b2, b3, b4, b5⟩ := ih (a + 1) h2 hn fun j => by
            rcases hall (j + 1) with h3 | h3
            · left; rw [show a + 1 + j = a + (j + 1) by omega, ← h3]; simp
            · right; simp at h3; omega
          obtain ⟨c1, c2, c3⟩ := ostep_holes (n := n) h1 (by omega)
          have hfa : fpAt all a = ofp P M K cl ops s.heap.length o s := by
            rcases hall 0 with h3 | h3
            · simp only [Nat.add_zero, List.getElem?_cons_zero] at h3
              simp [fpAt, List.getD_eq_getElem?_getD, ← h3]
            · simp at h3
          have hb : (fpAt all a).b = s.heap.length := by rw [hfa]; exact ofp_b _ _ _
          refine ⟨by simp [b1], by omega, ?_, fun j hj => ?_, fun i j hij hj => ?_⟩
          · rw [List.range'_succ]
            refine .cons ⟨o, ho, ?_, ?_⟩ b3
            · rw [hb]; exact c2
            · rw [hb, hfa]; exact c3
          · cases j with
            | zero => rw [Nat.add_zero, hb, hfa]; omega
            | succ j => have := b4 j (by omega); rw [show a + (j + 1) = a + 1 + j by omega]; omega
          · cases i with
            | zero =>
              have := b4 (j - 1) (by omega)
              rw [show a + 1 + (j - 1) = a + j by omega] at this
              rw [Nat.add_zero, hb, hfa]; omega
            | succ i =>
              have := b5 i (j - 1) (by omega) (by omega)
              rw [show a + 1 + (j - 1) = a + j by omega, show a + 1 + i = a + (i + 1) by omega] at this
              exact this
        · cases h
      · cases h

theorem ext_holes (m : Pl) (h : AHeap) (n : Nat) : Ext m h m (holes h n) := fun i o ho => ⟨o, by rw [hget_holes]; exact ho, rfl, rfl, rfl, Nat.le_refl _, fun _ => rfl⟩
theorem ext_holes' (m : Pl) (h : AHeap) (n : Nat) : Ext m (holes h n) m h := fun i o ho => ⟨o, by rw [hget_holes] at ho; exact ho, rfl, rfl, rfl, Nat.le_refl _, fun _ => rfl⟩

theorem HRel.holes {m : Pl} {h : AHeap} {w : World} (r : HRel M m h w) (n : Nat) : HRel M m (holes h n) w := by
  refine ⟨fun i j oi oj hi hj e => ?_, fun i o ho => ?_, fun b off v hv => ?_⟩
  · rw [hget_holes] at hi hj; exact r.inj i j oi oj hi hj e
  · rw [hget_holes] at ho
    obtain ⟨cs, t, fz, x⟩ := r.obj i o ho
    exact ⟨cs, t, fz, x.blk, x.size, x.len, x.free, x.one, x.flat, fun j u v hu hv => (x.rel j u v hu hv).mono (ext_holes m h n)⟩
  · obtain ⟨h1, h2, h3, h4⟩ := r.ro b off v hv
    exact ⟨h1, h2, h3, fun i o hi => by rw [hget_holes] at hi; exact h4 i o hi⟩

theorem Tr.of_holes {m m' : Pl} {h h' : AHeap} {w w' : World} {n : Nat} (t : Tr M m (Ab.holes h n) w m' h' w') : Tr M m h w m' h' w' where
  rel := t.rel
  ext := (ext_holes m h n).trans t.ext
  os := t.os
  tape := t.tape
  output := t.output
  size := t.size
  frame := fun b hb hn => t.frame b hb fun i o hi => hn i o (by rw [hget_holes] at hi; exact hi)
  own := fun i o hi => by
    rcases t.own i o hi with h1 | ⟨j, p, hj, h1⟩
    · exact .inl h1
    · exact .inr ⟨j, p, by rw [hget_holes] at hj; exact hj, h1⟩

theorem Big.region_draw (hK : K.Sound P M) (hmix : P.follows .mixedOrders = true) (cl : List Nat → List Nat) {id : Nat} {ops : Array Oper} {s s' : ASt} (h : rdraw P M K cl ops s = some s') : Big P M (.region id ops true) s .normal s' := fun m a w r ht hd => by
  unfold rdraw at h
  split at h
  · rename_i s1 fps htr
    split at h
    · rename_i hok
      cases h
      simp only [Bool.and_eq_true] at hok
      rw [List.range_eq_range'] at htr
      obtain ⟨b1, b2, b3, b4, b5⟩ := rtrace_runs (n := s'.heap.length) (all := fps) ops.size 0 htr (Nat.le_refl _) fun j => .inl (by rw [Nat.zero_add])
      simp only [Nat.zero_add] at b4 b5
      have hself : holes s'.heap s'.heap.length = s'.heap := by simp [holes]
      rw [hself, ← List.range_eq_range'] at b3
      refine wp_region_any hmix ?_
      refine any_sound hK hok.1 hok.2 (n := s'.heap.length) (se := s') (fun i hi => (b4 i hi).2) (fun i j hij hj => b5 i j hij hj) ops.size (Array.replicate ops.size false) (List.range ops.size) (m := m) (by simp) (by simp) (fun j => ?_) (List.pairwise_lt_range) (fun j o hj => ?_) b3 (holes_length b2) (fun j hj k hk => ?_) ((r.drawn _).holes _) ?_ hd ?_
      · rw [List.mem_range]
        constructor
        · intro hj; exact ⟨hj, by simp [hj]⟩
        · exact fun hj => hj.1
      · rw [Array.getD_eq_getD_getElem?, Array.getElem?_replicate] at hj
        split at hj <;> simp at hj
      · rw [hget_holes]
        have := (b4 j (List.mem_range.1 hj)).1
        simp [hget, List.getElem?_eq_none (show s.heap.length ≤ (fpAt fps j).b + k by omega)]
      · exact ht.mono (ext_holes m s.heap _)
      · intro m' a' w' htr' ht' hd'
        exact ⟨rfl, m', (Tr.drawn r (w.drawn + 1)).trans htr'.of_holes, ht', hd'⟩
    · cases h
  · cases h

end

/-- From the numbers that a value names on through the objects that hold addresses. -/
def expand (h : AHeap) (l : List Nat) : List Nat := l.foldl (fun acc i => match hget h i with
  | some o => if o.flat then acc else idsL acc o.cells
  | none => acc) l

def clos (h : AHeap) : Nat → List Nat → List Nat
  | 0, l => l
  | n + 1, l => let l' := expand h l; if l'.length = l.length then l else clos h n l'

def rgn (P : Program) (M : Mem) (K : Fns) (ops : Array Oper) (draw : Bool) (s : ASt) : Option ASt :=
  if draw then rdraw P M K (clos s.heap s.heap.length) ops s else rruns P M K (clos s.heap s.heap.length) ops (List.range ops.size) s

/-- Code, evaluated. -/
def ev (P : Program) (M : Mem) (K : Fns) : Nat → Code → ASt → Option (AExit × ASt)
  | 0, _, _ => none
  | n + 1, c, s => match c with
    | .skip => some (.normal, s)
    | .label _ => some (.normal, s)
    | .exit id => some (.exit id, s)
    | .ret => some (.ret, s)
    | .region _ ops draw => match rgn P M K ops draw s with
      | some s' => some (.normal, s')
      | none => none
    | .seq x y => match ev P M K n x s with
      | some (.normal, s1) => ev P M K n y s1
      | r => r
    | .cond c x y => match aev s.tmps c with
      | some (.bool b) => match b with
        | true => ev P M K n x s
        | false => ev P M K n y s
      | _ => none
    | .block id c => match ev P M K n c s with
      | some (.exit i, s1) => if i = id then some (.normal, s1) else some (.exit i, s1)
      | r => r
    | .loop c => match ev P M K n c s with
      | some (.normal, s1) => ev P M K n (.loop c) s1
      | r => r
    | _ => none

theorem Big.loop_one {P : Program} {M : Mem} {c : Code} {s s1 : ASt} {e : AExit} (he : e ≠ .normal) (h : Big P M c s e s1) : Big P M (.loop c) s e s1 :=
  Big.loop he (fun _ => s) 0 (fun k hk => by omega) h

theorem ev_sound {P : Program} {M : Mem} {K : Fns} (hK : K.Sound P M) (hmix : P.follows .mixedOrders = true) : ∀ (n : Nat) (c : Code) {s s' : ASt} {e : AExit}, ev P M K n c s = some (e, s') →
    (Big P M c s e s') ∧ ∀ c', c = .loop c' → e ≠ .normal ∧ ∃ (st : Nat → ASt) (k : Nat), st 0 = s ∧ (∀ j, j < k → Big P M c' (st j) .normal (st (j + 1))) ∧ Big P M c' (st k) e s' := by
  intro n
  induction n with
  | zero => intro c s s' e h; cases h
  | succ n ih =>
    intro c s s' e h
    cases c <;> simp only [ev] at h
    case skip => cases h; exact ⟨.skip, fun c' hc => by cases hc⟩
    case label => cases h; exact ⟨.label, fun c' hc => by cases hc⟩
    case exit => cases h; exact ⟨.exit, fun c' hc => by cases hc⟩
    case ret => cases h; exact ⟨.ret, fun c' hc => by cases hc⟩
    case region id ops draw =>
      refine ⟨?_, fun c' hc => by cases hc⟩
      split at h
      · rename_i s1 hs
        cases h
        cases draw with
        | true => exact Big.region_draw hK hmix _ hs
        | false => exact Big.region hK _ hs
      · cases h
    case seq x y =>
      refine ⟨?_, fun c' hc => by cases hc⟩
      split at h
      · rename_i s1 h1
        exact Big.seq (ih x h1).1 (ih y h).1
      · rename_i hne
        cases e with
        | normal => exact absurd h (hne _)
        | exit i => exact Big.seq_out (by simp) (ih x h).1
        | ret => exact Big.seq_out (by simp) (ih x h).1
    case cond c x y =>
      refine ⟨?_, fun c' hc => by cases hc⟩
      split at h
      · rename_i b hb
        split at h
        · exact Big.cond hb (ih x h).1
        · exact Big.cond hb (ih y h).1
      · cases h
    case block id c =>
      refine ⟨?_, fun c' hc => by cases hc⟩
      split at h
      · rename_i i s1 h1
        have hb := Big.block (id := id) (ih c h1).1
        simp only at hb
        split at h
        · rename_i hi
          cases h
          rw [if_pos hi] at hb
          exact hb
        · rename_i hi
          cases h
          rw [if_neg hi] at hb
          exact hb
      · rename_i hne
        have hb := Big.block (id := id) (ih c h).1
        cases e with
        | normal => exact hb
        | ret => exact hb
        | exit i => exact absurd h (hne _ _)
    case loop c =>
      have key : e ≠ .normal ∧ ∃ (st : Nat → ASt) (k : Nat), st 0 = s ∧ (∀ j, j < k → Big P M c (st j) .normal (st (j + 1))) ∧ Big P M c (st k) e s' := by
        split at h
        · rename_i s1 h1
          obtain ⟨hne, st, k, h2, h3, h4⟩ := (ih (.loop c) h).2 c rfl
          refine ⟨hne, fun j => match j with | 0 => s | j + 1 => st j, k + 1, rfl, fun j hj => ?_, h4⟩
          cases j with
          | zero => simp only [h2]; exact (ih c h1).1
          | succ j => exact h3 j (by omega)
        · rename_i hne
          refine ⟨fun he => ?_, fun _ => s, 0, rfl, fun j hj => by omega, (ih c h).1⟩
          subst he
          exact absurd h (hne _)
      obtain ⟨hne, st, k, h2, h3, h4⟩ := key
      refine ⟨?_, fun c' hc => by cases hc; exact ⟨hne, st, k, h2, h3, h4⟩⟩
      rw [← h2]
      exact Big.loop hne st k h3 h4
    all_goals cases h

end Go.Ab

namespace Go.Ab

/-- What a variable of results holds. -/
def ares (P : Program) (M : Mem) (s : ASt) : List ResultVar → Option (List Value)
  | [] => some []
  | .tmp t :: r => match ares P M s r with
    | some vs => some (s.tmps.getD t undef :: vs)
    | none => none
  | .cell a t :: r => match s.tmps.getD a undef with
    | .pointer (some ad) => match (loadAct P M t ad).run 0 s.heap, ares P M s r with
      | some (v, _), some vs => some (v :: vs)
      | _, _ => none
    | _ => none

def tup : List Value → Value
  | [v] => v
  | vs => .tuple ⟨vs⟩

theorem ares_sound {P : Program} {M : Mem} {m : Pl} {s : ASt} {w : World} {a : Go.Act} (r : HRel M m s.heap w) (ht : TRel m s.heap s.tmps a.tmps) : ∀ (rs : List ResultVar) (us : List Value), ares P M s rs = some us →
    ∃ vs : List Value, (rs.mapM fun x => (match x with
      | .tmp t => pure (a.tmps.getD t undef)
      | .cell ad t => do loadVar t (← asAddr (a.tmps.getD ad undef)) : Sem Value)).run P w = .ok vs w ∧ LRel m s.heap us vs := by
  have get : ∀ t, VRel m s.heap (s.tmps.getD t undef) (a.tmps.getD t undef) := fun t => aev_sound (x := .tmp t) ht rfl
  intro rs
  induction rs with
  | nil => intro us h; cases h; exact ⟨[], rfl, .nil _ _⟩
  | cons x rs ih =>
    intro us h
    cases x with
    | tmp t =>
      simp only [ares] at h
      split at h
      · rename_i vs hvs
        cases h
        obtain ⟨ws, hr, hl⟩ := ih vs hvs
        refine ⟨a.tmps.getD t undef :: ws, ?_, .cons (get t) hl⟩
        rw [List.mapM_cons]
        simp only [Sem.run_bind, Sem.run_pure, Result.andThen_ok, hr]
      · cases h
    | cell ad t =>
      simp only [ares] at h
      split at h
      · rename_i p hp
        split at h
        · rename_i v h1 vs hv hvs
          cases h
          obtain ⟨ws, hr, hl⟩ := ih vs hvs
          have hg := get ad
          rw [hp] at hg
          obtain ⟨p', hp'⟩ := hg.ptr_inv
          rw [hp'] at hg
          obtain ⟨_, u, hrun, hu⟩ := loadAct_value (P := P) r hg hv
          refine ⟨u :: ws, ?_, .cons hu hl⟩
          rw [List.mapM_cons]
          have hA : (asAddr (a.tmps.getD ad undef)).run P w = .ok p' w := by rw [hp']; rfl
          simp only [Sem.run_bind, hA, Sem.run_pure, Result.andThen_ok, hrun]
          rw [hr]
          rfl
        · cases h
      · cases h

theorem results_sound {P : Program} {M : Mem} {m : Pl} {s : ASt} {w : World} {a : Go.Act} (r : HRel M m s.heap w) (ht : TRel m s.heap s.tmps a.tmps) {fn : Func} {us : List Value} (h : ares P M s fn.results.toList = some us) :
    ∃ v, (results fn a.tmps).run P w = .ok v w ∧ VRel m s.heap (tup us) v := by
  obtain ⟨vs, hrun, hl⟩ := ares_sound r ht _ _ h
  have hm : (results fn a.tmps).run P w = .ok (if h : vs.toArray.size = 1 then vs.toArray[0] else .tuple vs.toArray) w := by
    unfold results
    rw [Array.mapM_eq_mapM_toList]
    simp only [Sem.run_bind, Sem.run_map]
    refine Eq.trans (congrArg (fun r : Result (List Value) => Result.andThen (Result.andThen r fun a w' => .ok a.toArray w') fun a w' => .ok (if h : a.size = 1 then a[0] else Value.tuple a) w') (?_ : _ = Result.ok vs w)) rfl
    exact hrun
  refine ⟨_, hm, ?_⟩
  cases us with
  | nil =>
    cases vs with
    | nil => exact .tuple rfl fun i u v hu => by simp at hu
    | cons v vs => have := hl.1; simp at this
  | cons u us =>
    cases vs with
    | nil => have := hl.1; simp at this
    | cons v vs =>
      cases us with
      | nil =>
        cases vs with
        | nil => simpa [tup] using hl.head
        | cons v vs => have := hl.1; simp at this
      | cons u2 us =>
        cases vs with
        | nil => have := hl.1; simp at this
        | cons v2 vs =>
          have hs : ¬ (v :: v2 :: vs).toArray.size = 1 := by simp
          rw [dif_neg hs]
          exact .tuple (by simpa using hl.1) fun i p q hp hq => hl.2 i p q (by simpa using hp) (by simpa using hq)

/-- At the end: the results; of the objects those that were handed in, and those that are kept. -/
def fin (P : Program) (M : Mem) (rv : List ResultVar) (k : Nat) (keep : List Nat) (s : ASt) : Option (Value × List AObj × List AObj) :=
  match ares P M s rv with
  | some us => if nodupB (List.range k ++ keep) then match gather s.heap (List.range k ++ keep) with
    | some objs => match renOs (idx (List.range k ++ keep)) objs, renV (idx (List.range k ++ keep)) (tup us) with
      | some lo, some v => some (v, lo.take k, lo.drop k)
      | _, _ => none
    | none => none
    else none
  | none => none

theorem acalls_of_big {P : Program} {M : Mem} {f : FuncId} {fn : Func} {c : Code} (hf : P.funcs[f]? = some fn) (hb : fn.body = some c) {args : List Value} {os : List AObj} {e : AExit} {s' : ASt}
    (big : Big P M c ⟨args ++ List.replicate (fn.ntmps - args.length) undef, os.map some⟩ e s') (he : ∀ i, e ≠ .exit i) {keep : List Nat} {v : Value} {os' ns : List AObj}
    (hfin : fin P M fn.results.toList os.length keep s' = some (v, os', ns)) : ACalls P M f args os v os' ns := by
  unfold fin at hfin
  split at hfin
  · rename_i us hus
    split at hfin
    · rename_i hnd
      have hd := nodupB_sound hnd
      split at hfin
      · rename_i objs hg
        split at hfin
        · rename_i lo v1 hlo hv
          cases hfin
          obtain ⟨g1, g2⟩ := gather_get hg
          obtain ⟨l1, l2⟩ := renOs_get hlo
          have hLl : (List.range os.length ++ keep).length = os.length + keep.length := by simp
          have hlen : os.length ≤ lo.length := by omega
          refine ⟨by simp; omega, fun m w args' r hargs => ?_⟩
          refine calls_of_wp hf hb (wp_mono (big m _ w r ?_ rfl) ?_)
          · have hal := hargs.1
            simp only [TRel, Array.toList_append, Array.toList_replicate]
            have hsz : fn.ntmps - args'.size = fn.ntmps - args.length := by simp at hal; omega
            rw [hsz]
            refine LRel.append hargs (LRel.same ((groundL_iff _).2 fun z hz => ?_))
            rw [List.mem_replicate] at hz
            rw [hz.2]; rfl
          · rintro e1 a1 w1 ⟨rfl, m1, htr, ht1, hd1⟩
            obtain ⟨v', hrun, hvr⟩ := results_sound htr.rel ht1 hus
            obtain ⟨hr1, hemb⟩ := restrict htr.rel hd hg hlo
            have hR : ∃ v'' m', Ending.returned v' = .returned v'' ∧ Tr M m (os.map some) w m' ((lo.take os.length ++ lo.drop os.length).map some) w1 ∧ VRel m' ((lo.take os.length ++ lo.drop os.length).map some) v v'' := by
              rw [List.take_append_drop]
              refine ⟨v', _, rfl, ⟨hr1, fun i o ho => ?_, htr.os, htr.tape, htr.output, htr.size, htr.frame, fun i p hp => ?_⟩, hvr.ren hemb hv⟩
              · obtain ⟨o', ho', e1, e2, e3, e4, e5⟩ := htr.ext i o ho
                rw [hget_map] at ho
                have hi : i < os.length := (List.getElem?_eq_some_iff.1 ho).1
                have hLi : (List.range os.length ++ keep)[i]? = some i := by
                  rw [List.getElem?_append_left (by simpa using hi), List.getElem?_range hi]
                have hil : i < lo.length := by omega
                obtain ⟨q, hq1, hq2⟩ := l2 i lo[i] (List.getElem?_eq_getElem hil)
                obtain ⟨q', hq3, hq4⟩ := g2 i i hLi
                rw [hq1] at hq3; cases hq3
                rw [ho'] at hq4; cases hq4
                have hp := renO_props hq2
                refine ⟨lo[i], by rw [hget_map]; exact List.getElem?_eq_getElem hil, by rw [hp.1, e1], by rw [hp.2.1, e2], by rw [hp.2.2.1, e3], by rw [hp.2.2.2]; exact e4, fun hl => ?_⟩
                have := e5 (by rw [← hp.2.2.2]; exact hl)
                rw [List.getD_eq_getElem?_getD, hLi]
                exact this
              · rw [hget_map] at hp
                obtain ⟨q, hq1, hq2⟩ := l2 i p hp
                have hil : i < (List.range os.length ++ keep).length := by have := (List.getElem?_eq_some_iff.1 hq1).1; omega
                obtain ⟨q', hq3, hq4⟩ := g2 i _ (List.getElem?_eq_getElem hil)
                rw [List.getD_eq_getElem?_getD, List.getElem?_eq_getElem hil]
                exact htr.own _ q' hq4
            cases e with
            | normal => exact ⟨hd1, v', hrun, hR⟩
            | ret => exact ⟨hd1, v', hrun, hR⟩
            | exit i => exact absurd rfl (he i)
        · cases hfin
      · cases hfin
    · cases hfin
  · cases hfin

/-- A function's body, evaluated. -/
def evF (P : Program) (M : Mem) (K : Fns) (fuel : Nat) (fn : Func) (args : List Value) (os : List AObj) (keep : List Nat) : Option (Value × List AObj × List AObj) :=
  match fn.body with
  | some c => match ev P M K fuel c ⟨args ++ List.replicate (fn.ntmps - args.length) undef, os.map some⟩ with
    | some (.exit _, _) => none
    | some (_, s') => fin P M fn.results.toList os.length keep s'
    | none => none
  | none => none

theorem acalls_of_evF {P : Program} {M : Mem} {K : Fns} (hK : K.Sound P M) (hmix : P.follows .mixedOrders = true) {f : FuncId} {fn : Func} (hf : P.funcs[f]? = some fn) {fuel : Nat} {args : List Value} {os : List AObj} {keep : List Nat} {v : Value} {os' ns : List AObj}
    (h : evF P M K fuel fn args os keep = some (v, os', ns)) : ACalls P M f args os v os' ns := by
  unfold evF at h
  split at h
  · rename_i c hc
    split at h
    · cases h
    · rename_i e s' hne hev
      have hb := (ev_sound hK hmix fuel c hev).1
      exact acalls_of_big hf hc hb (fun i hi => hne i hi) h
    · cases h
  · cases h

/-- A known function. -/
structure Sum where
  f : FuncId
  ro : Bool
  S : List Value → List AObj → Option (Value × List AObj × List AObj)
  C : List Value → List AObj → List (Bool × Bool) := fun _ _ => []

def Sum.Sound (P : Program) (M : Mem) (s : Sum) : Prop := ∀ args os v os' ns, s.S args os = some (v, os', ns) → Answers P M s.f args os v os' ns ∧ (s.ro = true → os' = os)

def sumFind (l : List Sum) (f : FuncId) : Option Sum :=
  match l with
  | [] => none
  | s :: r => if Nat.beq s.f f then some s else sumFind r f

def fns (l : List Sum) : Fns where
  F := fun f args os => match sumFind l f with
    | some s => s.S args os
    | none => none
  ro := fun f => match sumFind l f with
    | some s => s.ro
    | none => false

theorem sumFind_mem : ∀ {l : List Sum} {f : FuncId} {s : Sum}, sumFind l f = some s → s ∈ l ∧ s.f = f := by
  intro l
  induction l with
  | nil => intro f s h; cases h
  | cons x r ih =>
    intro f s h
    simp only [sumFind] at h
    split at h
    · rename_i he
      cases h
      exact ⟨by simp, Nat.eq_of_beq_eq_true he⟩
    · obtain ⟨h1, h2⟩ := ih h
      exact ⟨by simp [h1], h2⟩

theorem fns_sound {P : Program} {M : Mem} {l : List Sum} (h : ∀ s ∈ l, s.Sound P M) : (fns l).Sound P M := by
  intro f args os v os' ns hF
  simp only [fns] at hF ⊢
  split at hF
  · rename_i s hs
    obtain ⟨h1, rfl⟩ := sumFind_mem hs
    obtain ⟨h4, h5⟩ := h s h1 _ _ _ _ _ hF
    exact ⟨h4, fun hr => h5 hr⟩
  · cases hF

theorem enters_of {P : Program} {f : FuncId} {fn : Func} (hf : P.funcs[f]? = some fn) (hn : (fn.name == "runtime.NumGoroutine") = false) (hb : fn.body.isSome = true) : Enters P f := ⟨fn, hf, hn, hb⟩

end Go.Ab

namespace Go.Ab

def memN (d : Nat) : List Nat → Bool
  | [] => false
  | x :: r => if Nat.beq x d then true else memN d r

/-- What was foretold and what came. -/
abbrev Pins := List (Bool × Bool)

def Held (p : Pins) : Prop := ∀ x ∈ p, x.1 = x.2

theorem Held.left {p q : Pins} (h : Held (p ++ q)) : Held p := fun x hx => h x (List.mem_append.2 (.inl hx))
theorem Held.right {p q : Pins} (h : Held (p ++ q)) : Held q := fun x hx => h x (List.mem_append.2 (.inr hx))
theorem held_nil : Held [] := fun x hx => by cases hx

def pin (sym : List Nat) (d : Option Tmp) (s : ASt) (orc : List Bool) : ASt × List Bool × Pins :=
  match d with
  | none => (s, orc, [])
  | some d => if memN d sym then match s.tmps[d]? with
      | some (.bool b) => match orc with
        | x :: r => (⟨s.tmps.set d (.bool x), s.heap⟩, r, [(b, x)])
        | [] => (s, [], [])
      | _ => (s, orc, [])
    else (s, orc, [])

theorem list_set_self {α : Type} {l : List α} {i : Nat} {x : α} (h : l[i]? = some x) : l.set i x = l := by
  apply List.ext_getElem?
  intro j
  rw [List.getElem?_set]
  split
  · rename_i e
    subst e
    have := (List.getElem?_eq_some_iff.1 h).1
    rw [if_pos this, h]
  · rfl

theorem pin_eq {sym : List Nat} {d : Option Tmp} {s s' : ASt} {orc r : List Bool} {p : Pins} (h : pin sym d s orc = (s', r, p)) (hp : Held p) : s' = s := by
  unfold pin at h
  split at h
  · cases h; rfl
  · split at h
    · split at h
      · rename_i b hb
        split at h
        · rename_i x r'
          cases h
          have := hp (b, x) (by simp)
          simp only at this
          subst this
          simp [list_set_self hb]
        · cases h; rfl
      · cases h; rfl
    · cases h; rfl

section
variable (P : Program) (M : Mem) (K : Fns) (sym : List Nat)

def rrunsO (cl : List Nat → List Nat) (ops : Array Oper) : List Nat → ASt → List Bool → Option (ASt × List Bool × Pins)
  | [], s, orc => some (s, orc, [])
  | i :: l, s, orc => match ops[i]? with
    | none => rrunsO cl ops l s orc
    | some o => match ostep P M K cl ops s.heap.length o s with
      | some s' => match pin sym o.dst s' orc with
        | (s1, o1, p1) => match rrunsO cl ops l s1 o1 with
          | some (s2, o2, p2) => some (s2, o2, p1 ++ p2)
          | none => none
      | none => none

def rtraceO (cl : List Nat → List Nat) (ops : Array Oper) : List Nat → ASt → List Bool → Option (ASt × List FP × List Bool × Pins)
  | [], s, orc => some (s, [], orc, [])
  | i :: l, s, orc => match ops[i]? with
    | none => none
    | some o => match ostep P M K cl ops s.heap.length o s with
      | some s' => match pin sym o.dst s' orc with
        | (s1, o1, p1) => match rtraceO cl ops l s1 o1 with
          | some (s2, fps, o2, p2) => some (s2, ofp P M K cl ops s.heap.length o s :: fps, o2, p1 ++ p2)
          | none => none
      | none => none

def rdrawO (cl : List Nat → List Nat) (ops : Array Oper) (s : ASt) (orc : List Bool) : Option (ASt × List Bool × Pins) :=
  match rtraceO P M K sym cl ops (List.range ops.size) s orc with
  | some (s', fps, o1, p1) => if okEdges ops && okPairs ops (befs ops.toList []) fps then some (s', o1, p1) else none
  | none => none

def rgnO (ops : Array Oper) (draw : Bool) (s : ASt) (orc : List Bool) : Option (ASt × List Bool × Pins) :=
  if draw then rdrawO P M K sym (clos s.heap s.heap.length) ops s orc else rrunsO P M K sym (clos s.heap s.heap.length) ops (List.range ops.size) s orc

/-- Code, evaluated; the answers of the operations with these numbers are foretold. -/
def evO : Nat → Code → ASt → List Bool → Option (AExit × ASt × List Bool × Pins)
  | 0, _, _, _ => none
  | n + 1, c, s, orc => match c with
    | .skip => some (.normal, s, orc, [])
    | .label _ => some (.normal, s, orc, [])
    | .exit id => some (.exit id, s, orc, [])
    | .ret => some (.ret, s, orc, [])
    | .region _ ops draw => match rgnO P M K sym ops draw s orc with
      | some (s', o1, p1) => some (.normal, s', o1, p1)
      | none => none
    | .seq x y => match evO n x s orc with
      | some (.normal, s1, o1, p1) => match evO n y s1 o1 with
        | some (e, s2, o2, p2) => some (e, s2, o2, p1 ++ p2)
        | none => none
      | r => r
    | .cond c x y => match aev s.tmps c with
      | some (.bool b) => match b with
        | true => evO n x s orc
        | false => evO n y s orc
      | _ => none
    | .block id c => match evO n c s orc with
      | some (.exit i, s1, o1, p1) => if i = id then some (.normal, s1, o1, p1) else some (.exit i, s1, o1, p1)
      | r => r
    | .loop c => match evO n c s orc with
      | some (.normal, s1, o1, p1) => match evO n (.loop c) s1 o1 with
        | some (e, s2, o2, p2) => some (e, s2, o2, p1 ++ p2)
        | none => none
      | r => r
    | _ => none
end

section
variable {P : Program} {M : Mem} {K : Fns} {sym : List Nat}

theorem rrunsO_eq {cl : List Nat → List Nat} {ops : Array Oper} : ∀ (l : List Nat) {s s' : ASt} {orc r : List Bool} {p : Pins}, rrunsO P M K sym cl ops l s orc = some (s', r, p) → Held p → rruns P M K cl ops l s = some s' := by
  intro l
  induction l with
  | nil => intro s s' orc r p h _; cases h; rfl
  | cons i l ih =>
    intro s s' orc r p h hp
    simp only [rrunsO] at h
    simp only [rruns]
    split at h
    · rename_i ho
      try simp only [ho]
      exact ih h hp
    · rename_i o ho
      try simp only [ho]
      split at h
      · rename_i s0 h0
        try simp only [h0]
        split at h
        · rename_i s2 o2 p2 h2
          cases h
          rw [pin_eq (s' := (pin sym o.dst s0 orc).1) rfl hp.left] at h2
          exact ih h2 hp.right
        · cases h
      · cases h

theorem rtraceO_eq {cl : List Nat → List Nat} {ops : Array Oper} : ∀ (l : List Nat) {s s' : ASt} {orc r : List Bool} {p : Pins} {fps : List FP}, rtraceO P M K sym cl ops l s orc = some (s', fps, r, p) → Held p → rtrace P M K cl ops l s = some (s', fps) := by
  intro l
  induction l with
  | nil => intro s s' orc r p fps h _; cases h; rfl
  | cons i l ih =>
    intro s s' orc r p fps h hp
    simp only [rtraceO] at h
    simp only [rtrace]
    split at h
    · cases h
    · rename_i o ho
      try simp only [ho]
      split at h
      · rename_i s0 h0
        try simp only [h0]
        split at h
        · rename_i s2 fps2 o2 p2 h2
          cases h
          rw [pin_eq (s' := (pin sym o.dst s0 orc).1) rfl hp.left] at h2
          rw [ih h2 hp.right]
        · cases h
      · cases h

theorem rgnO_eq {ops : Array Oper} {draw : Bool} {s s' : ASt} {orc r : List Bool} {p : Pins} (h : rgnO P M K sym ops draw s orc = some (s', r, p)) (hp : Held p) : rgn P M K ops draw s = some s' := by
  unfold rgnO at h
  unfold rgn
  cases draw with
  | true =>
    simp only [if_true] at h ⊢
    unfold rdrawO at h
    unfold rdraw
    split at h
    · rename_i s1 fps o1 p1 h1
      split at h
      · rename_i hok
        cases h
        rw [rtraceO_eq _ h1 hp]
        simp only [hok, if_true]
      · cases h
    · cases h
  | false =>
    simp only [Bool.false_eq_true, if_false] at h ⊢
    exact rrunsO_eq _ h hp

theorem evO_eq : ∀ (n : Nat) (c : Code) {s s' : ASt} {orc r : List Bool} {p : Pins} {e : AExit}, evO P M K sym n c s orc = some (e, s', r, p) → Held p → ev P M K n c s = some (e, s') := by
  intro n
  induction n with
  | zero => intro c s s' orc r p e h; cases h
  | succ n ih =>
    intro c s s' orc r p e h hp
    cases c <;> simp only [evO] at h <;> simp only [ev]
    case skip => cases h; rfl
    case label => cases h; rfl
    case exit => cases h; rfl
    case ret => cases h; rfl
    case region id ops draw =>
      split at h
      · rename_i s1 o1 p1 h1
        cases h
        rw [rgnO_eq h1 hp]
      · cases h
    case seq x y =>
      split at h
      · rename_i s1 o1 p1 h1
        split at h
        · rename_i e2 s2 o2 p2 h2
          cases h
          rw [ih x h1 hp.left]
          exact ih y h2 hp.right
        · cases h
      · rename_i hne
        rw [ih x h hp]
        cases e with
        | normal => exact absurd h (hne _ _ _)
        | exit i => rfl
        | ret => rfl
    case cond c x y =>
      split at h
      · rename_i b hb
        try simp only [hb]
        split at h
        · exact ih x h hp
        · exact ih y h hp
      · cases h
    case block id c =>
      split at h
      · rename_i i s1 o1 p1 h1
        split at h
        · rename_i hi
          cases h
          rw [ih c h1 hp]
          simp [hi]
        · rename_i hi
          cases h
          rw [ih c h1 hp]
          simp [hi]
      · rename_i hne
        rw [ih c h hp]
        cases e with
        | normal => rfl
        | ret => rfl
        | exit i => exact absurd h (hne _ _ _ _)
    case loop c =>
      split at h
      · rename_i s1 o1 p1 h1
        split at h
        · rename_i e2 s2 o2 p2 h2
          cases h
          rw [ih c h1 hp.left]
          exact ih _ h2 hp.right
        · cases h
      · rename_i hne
        rw [ih c h hp]
        cases e with
        | normal => exact absurd h (hne _ _ _)
        | exit i => rfl
        | ret => rfl
    all_goals cases h
end

/-- A function's body, evaluated, some answers being foretold. -/
def evFO (P : Program) (M : Mem) (K : Fns) (sym : List Nat) (fuel : Nat) (fn : Func) (args : List Value) (os : List AObj) (keep : List Nat) (orc : List Bool) : Option ((Value × List AObj × List AObj) × Pins) :=
  match fn.body with
  | some c => match evO P M K sym fuel c ⟨args ++ List.replicate (fn.ntmps - args.length) undef, os.map some⟩ orc with
    | some (.exit _, _) => none
    | some (_, s', _, p) => match fin P M fn.results.toList os.length keep s' with
      | some r => some (r, p)
      | none => none
    | none => none
  | none => none

theorem evFO_eq {P : Program} {M : Mem} {K : Fns} {sym : List Nat} {fuel : Nat} {fn : Func} {args : List Value} {os : List AObj} {keep : List Nat} {orc : List Bool} {r : Value × List AObj × List AObj} {p : Pins}
    (h : evFO P M K sym fuel fn args os keep orc = some (r, p)) (hp : Held p) : evF P M K fuel fn args os keep = some r := by
  unfold evFO at h
  unfold evF
  split at h
  · rename_i c hc
    try simp only [hc]
    split at h
    · cases h
    · rename_i e s' o1 p1 hne hev
      split at h
      · rename_i r1 hr
        cases h
        rw [evO_eq _ _ hev hp]
        cases e with
        | normal => exact hr
        | ret => exact hr
        | exit i => exact (hne i rfl).elim
      · cases h
    · cases h
  · cases h

theorem acalls_of_evFO {P : Program} {M : Mem} {K : Fns} (hK : K.Sound P M) (hmix : P.follows .mixedOrders = true) {f : FuncId} {fn : Func} (hf : P.funcs[f]? = some fn) {sym : List Nat} {fuel : Nat} {args : List Value} {os : List AObj} {keep : List Nat} {orc : List Bool} {v : Value} {os' ns : List AObj} {p : Pins}
    (h : evFO P M K sym fuel fn args os keep orc = some ((v, os', ns), p)) (hp : Held p) : ACalls P M f args os v os' ns :=
  acalls_of_evF hK hmix hf (evFO_eq h hp)

end Go.Ab

namespace Go.Ab
open Go.ChangeShapes Go.RowKit

/-- Of a world, the cells that hold plain data. -/
def memOf (w : World) : Mem := fun b off => match w.cell? ⟨b, off, none⟩ with
  | some v => if ground v && v.oneCell' then some v else none
  | none => none

theorem hget_nil (i : Nat) : hget [] i = none := rfl

theorem hrel_memOf (w : World) (m : Pl) : HRel (memOf w) m [] w := by
  refine ⟨fun i j oi oj hi => by simp [hget_nil] at hi, fun i o hi => by simp [hget_nil] at hi, fun b off v hv => ?_⟩
  unfold memOf at hv
  split at hv
  · rename_i u hu
    split at hv
    · rename_i hc
      cases hv
      simp only [Bool.and_eq_true] at hc
      exact ⟨hu, hc.1, hc.2, fun i o hi => by simp [hget_nil] at hi⟩
    · cases hv
  · cases hv

theorem below_of_tr {M : Mem} {m m' : Pl} {h' : AHeap} {w w' : World} (t : Tr M m [] w m' h' w') : Below w.heap.size w w' :=
  ⟨t.os, t.tape, t.output, t.size, fun k hk => t.frame k hk fun i o hi => by simp [hget_nil] at hi⟩

theorem calls_law {P : Program} {f : FuncId} {w : World} {args : Array Value} {ns : List AObj} {b : Bool} (h : ACalls P (memOf w) f args.toList [] (.bool b) [] ns) (hg : groundL args.toList = true) :
    Calls P f args w fun e w' => e = .returned (.bool b) ∧ Below w.heap.size w w' := by
  refine (h.2 (fun _ => (0, 0)) w args (hrel_memOf w _) (LRel.same hg)).mono fun e w' ⟨v', m', he, htr, hv⟩ => ?_
  rw [hv.bool] at he
  exact ⟨he, below_of_tr htr⟩

def okTs (P : Program) (ts : List TypeId) : Bool := laidOutB P && ts.all fun t => P.readableRec t && Nat.blt t P.types.size

theorem trodAll_carry {H : Type} {enc : TypeId × Value → H} {P : Program} {W W' : World} (hl : laidOutB P = true) (hb : Below W.heap.size W W') : ∀ (ts : List TypeId) (vs : List Value) (ds : List (DataW H)) (ps : List MemPlace),
    (ts.all fun t => P.readableRec t && Nat.blt t P.types.size) = true → (∀ x ∈ ps, x.block < W.heap.size) → DataW.TrodAll enc P W 0 (fun _ => true) true ts vs ds ps → DataW.TrodAll enc P W' 0 (fun b => decide (b < W.heap.size)) true ts vs ds ps := by
  intro ts
  induction ts with
  | nil => intro vs ds ps _ _ h; cases vs <;> cases ds <;> simp_all [DataW.TrodAll]
  | cons t ts ih =>
    intro vs ds ps hts hlt h
    obtain ⟨v, vs', d, ds', p, q, rfl, rfl, rfl, h1, h2⟩ := trodAll_cons h
    simp only [List.all_cons, Bool.and_eq_true] at hts
    exact trodAll_cons_mk (Below.trod hl hts.1.1 (of_eq_true ((Nat.blt_eq (x := t) (y := P.types.size)) ▸ eq_true hts.1.2)) h1 hb fun x hx => hlt x (List.mem_append.2 (.inl hx)))
      (ih vs' ds' q hts.2 (fun x hx => hlt x (List.mem_append.2 (.inr hx))) h2)

/-- A law's step: whatever its arguments, it returns true, and they read as they did. -/
theorem lifted {C : Checked} {f : FuncId} {fn : Func} {tb : TypeId} (own : ownKnob C.prog.godebug = none) (noInit : C.prog.inits.idxOf? f = none) (hfn : C.prog.funcs[f]? = some fn)
    (hres : fn.resultTypes = #[tb]) (htb : C.prog.underlying tb = some .bool) (hts : okTs C.prog fn.params.toList = true) {s : ChangeSpec} (hvars : s.vars = [])
    (hs : ∀ (H : Type) (ds : List (DataW H)), ds.length = fn.params.size → s.fn H ds = { results := [.lit (.bool true)], args := ds })
    (run : ∀ (W : World) (base : Nat) (H : Type) (enc : TypeId × Value → H) (args : Array Value) (ds : List (DataW H)) (ps : List MemPlace), DataW.TrodAll enc C.prog W 0 (fun _ => true) true fn.params.toList args.toList ds ps →
      (∀ (j : Nat) t v, fn.params[j]? = some t → args[j]? = some v → Value.okWide C.prog W .any base t v) → groundL args.toList = true ∧ ∃ ns, ACalls C.prog (memOf W) f args.toList [] (.bool true) [] ns)
    (os : Os) (started : os.Started) {H : Type} (enc : TypeId × Value → H)
    (witness : ∃ (w : World) (tape : Tape) (i : Input), w.os = os ∧ (w.forCall tape i).Shaped C.prog ∧ i.vars = [] ∧ Input.okWide C.prog (w.forCall tape i) .any w.heap.size f i ∧
      s.pre6 enc C.prog fn [] false (w.forCall tape i).memory i.args ∧ ({} : Assume).holds C.prog (lone (Frame.enter C.prog f i.args .normal) [] (w.forCall tape i))) :
    ReturnsInHanded {} C os f .any (s.pre6 enc C.prog fn [] false) (s.post enc C.prog fn false true false false) := by
  refine returnsInHanded_of_change own started noInit hfn witness ?_
  intro W base args ds gs before hval hW hcnd _
  have hW' := hW
  obtain ⟨p, q, hA, hV, rfl, hfz, hnd⟩ := hW
  rw [hvars] at hV
  obtain ⟨rfl, rfl⟩ := trodVars_none hV
  obtain ⟨hg, ns, hrun⟩ := run W base H enc args ds p hA hval
  simp only [okTs, Bool.and_eq_true] at hts
  have hlen : ∀ (ts : List TypeId) (vs : List Value) (es : List (DataW H)) (ps : List MemPlace), DataW.TrodAll enc C.prog W 0 (fun _ => true) true ts vs es ps → es.length = ts.length := by
    intro ts
    induction ts with
    | nil => intro vs es ps h; cases vs <;> cases es <;> simp_all [DataW.TrodAll]
    | cons t ts ih =>
      intro vs es ps h
      obtain ⟨v, vs', d, ds', p, q, rfl, rfl, rfl, h1, h2⟩ := trodAll_cons h
      simp [ih _ _ _ h2]
  have hds := hlen _ _ _ _ hA
  have hsf := hs H ds (by simpa using hds)
  have hlt : ∀ x ∈ p ++ [], x.block < W.heap.size := fun x hx => hW'.lt x hx
  refine (calls_law hrun hg).mono fun e W' ⟨he, hb⟩ => ⟨_, he, ds, [], p ++ [], [], p, [], hW', ?_, ?_, ?_, hb.frame _, fun h => by cases h⟩
  · rw [hres, List.append_nil, hsf]
    exact trodAll_cons_mk (shut_bool htb _) trodAll_mk0
  · rw [List.append_nil, hsf]
    exact trodAll_carry hts.1 hb _ _ _ _ hts.2 (fun x hx => hlt x (by simpa using hx)) hA
  · rw [hvars, List.append_nil, hsf]
    rfl

end Go.Ab

namespace Go.Ab

section
variable {R : Type}

def pinT (sym : List Nat) (d : Option Tmp) (s : ASt) (k : ASt → Option R) : Option R :=
  match d with
  | none => k s
  | some d => if memN d sym then match s.tmps[d]? with
      | some (.bool b) => match b with
        | true => k ⟨s.tmps.set d (.bool true), s.heap⟩
        | false => k ⟨s.tmps.set d (.bool false), s.heap⟩
      | _ => k s
    else k s

theorem pinT_eq {sym : List Nat} {d : Option Tmp} {s : ASt} {k : ASt → Option R} : pinT sym d s k = k s := by
  unfold pinT
  split
  · rfl
  · split
    · split
      · rename_i b hb
        cases b <;> simp only [list_set_self hb]
      · rfl
    · rfl

variable (P : Program) (M : Mem) (K : Fns) (sym : List Nat)

def rrunsT (cl : List Nat → List Nat) (ops : Array Oper) : List Nat → ASt → (ASt → Option R) → Option R
  | [], s, k => k s
  | i :: l, s, k => match ops[i]? with
    | none => rrunsT cl ops l s k
    | some o => match ostep P M K cl ops s.heap.length o s with
      | some s' => pinT sym o.dst s' fun s1 => rrunsT cl ops l s1 k
      | none => none

def rtraceT (cl : List Nat → List Nat) (ops : Array Oper) : List Nat → ASt → (ASt → List FP → Option R) → Option R
  | [], s, k => k s []
  | i :: l, s, k => match ops[i]? with
    | none => none
    | some o => match ostep P M K cl ops s.heap.length o s with
      | some s' => pinT sym o.dst s' fun s1 => rtraceT cl ops l s1 fun s2 fps => k s2 (ofp P M K cl ops s.heap.length o s :: fps)
      | none => none

def rgnT (ops : Array Oper) (draw : Bool) (s : ASt) (k : ASt → Option R) : Option R :=
  if draw then rtraceT P M K sym (clos s.heap s.heap.length) ops (List.range ops.size) s fun s' fps => if okEdges ops && okPairs ops (befs ops.toList []) fps then k s' else none
  else rrunsT P M K sym (clos s.heap s.heap.length) ops (List.range ops.size) s k

/-- Code, evaluated, and then k; the answers of the operations with these numbers are taken apart. -/
def evT : Nat → Code → ASt → (AExit → ASt → Option R) → Option R
  | 0, _, _, _ => none
  | n + 1, c, s, k => match c with
    | .skip => k .normal s
    | .label _ => k .normal s
    | .exit id => k (.exit id) s
    | .ret => k .ret s
    | .region _ ops draw => rgnT P M K sym ops draw s (k .normal)
    | .seq x y => evT n x s fun e s1 => match e with
      | .normal => evT n y s1 k
      | .exit i => k (.exit i) s1
      | .ret => k .ret s1
    | .cond c x y => match aev s.tmps c with
      | some (.bool b) => match b with
        | true => evT n x s k
        | false => evT n y s k
      | _ => none
    | .block id c => evT n c s fun e s1 => match e with
      | .exit i => if i = id then k .normal s1 else k (.exit i) s1
      | .normal => k .normal s1
      | .ret => k .ret s1
    | .loop c => evT n c s fun e s1 => match e with
      | .normal => evT n (.loop c) s1 k
      | .exit i => k (.exit i) s1
      | .ret => k .ret s1
    | _ => none
end

section
variable {R : Type} {P : Program} {M : Mem} {K : Fns} {sym : List Nat}

def thenK {α : Type} (x : Option α) (k : α → Option R) : Option R :=
  match x with
  | some a => k a
  | none => none

theorem rrunsT_eq {cl : List Nat → List Nat} {ops : Array Oper} : ∀ (l : List Nat) (s : ASt) (k : ASt → Option R), rrunsT P M K sym cl ops l s k = thenK (rruns P M K cl ops l s) k := by
  intro l
  induction l with
  | nil => intro s k; rfl
  | cons i l ih =>
    intro s k
    unfold rrunsT rruns
    cases ops[i]? with
    | none => exact ih s k
    | some o =>
      simp only
      cases ostep P M K cl ops s.heap.length o s with
      | none => rfl
      | some s' => simp only [pinT_eq, ih]

theorem rtraceT_eq {cl : List Nat → List Nat} {ops : Array Oper} : ∀ (l : List Nat) (s : ASt) (k : ASt → List FP → Option R), rtraceT P M K sym cl ops l s k = thenK (rtrace P M K cl ops l s) fun x => k x.1 x.2 := by
  intro l
  induction l with
  | nil => intro s k; rfl
  | cons i l ih =>
    intro s k
    unfold rtraceT rtrace
    cases ops[i]? with
    | none => rfl
    | some o =>
      simp only
      cases ostep P M K cl ops s.heap.length o s with
      | none => rfl
      | some s' =>
        simp only [pinT_eq, ih]
        cases rtrace P M K cl ops l s' with
        | none => rfl
        | some x => rfl

theorem rgnT_eq {ops : Array Oper} {draw : Bool} {s : ASt} {k : ASt → Option R} : rgnT P M K sym ops draw s k = thenK (rgn P M K ops draw s) k := by
  unfold rgnT rgn
  cases draw with
  | false => simp only [Bool.false_eq_true, if_false]; exact rrunsT_eq _ _ _
  | true =>
    simp only [if_true]
    rw [rtraceT_eq]
    unfold rdraw
    cases rtrace P M K (clos s.heap s.heap.length) ops (List.range ops.size) s with
    | none => rfl
    | some x =>
      obtain ⟨s', fps⟩ := x
      simp only [thenK]
      cases okEdges ops && okPairs ops (befs ops.toList []) fps <;> rfl

theorem evT_eq : ∀ (n : Nat) (c : Code) (s : ASt) (k : AExit → ASt → Option R), evT P M K sym n c s k = thenK (ev P M K n c s) fun x => k x.1 x.2 := by
  intro n
  induction n with
  | zero => intro c s k; rfl
  | succ n ih =>
    intro c s k
    cases c <;> unfold evT ev
    case skip => rfl
    case label => rfl
    case exit => rfl
    case ret => rfl
    case region id ops draw =>
      simp only [rgnT_eq]
      cases rgn P M K ops draw s <;> rfl
    case seq x y =>
      simp only [ih]
      cases ev P M K n x s with
      | none => rfl
      | some r => obtain ⟨e, s1⟩ := r; cases e <;> rfl
    case cond c x y =>
      simp only
      cases aev s.tmps c with
      | none => rfl
      | some v => cases v with
        | bool b => cases b <;> simp only [ih]
        | _ => rfl
    case block id c =>
      simp only [ih]
      cases ev P M K n c s with
      | none => rfl
      | some r => obtain ⟨e, s1⟩ := r; cases e with
        | exit i => simp only [thenK]; split <;> rfl
        | normal => rfl
        | ret => rfl
    case loop c =>
      simp only [ih]
      cases ev P M K n c s with
      | none => rfl
      | some r => obtain ⟨e, s1⟩ := r; cases e <;> rfl
    all_goals rfl
end

/-- The new objects that the results, or what was handed in, can reach. -/
def keepOf (h : AHeap) (k : Nat) (us : List Value) : List Nat := (clos h h.length (idsL (List.range k) us)).filter fun i => Nat.ble k i

def finA (P : Program) (M : Mem) (rv : List ResultVar) (k : Nat) (s : ASt) : Option (Value × List AObj × List AObj) :=
  match ares P M s rv with
  | some us => fin P M rv k (keepOf s.heap k us) s
  | none => none

/-- A function's body, evaluated, the answers of the operations with these numbers taken apart. -/
def evFT (P : Program) (M : Mem) (K : Fns) (sym : List Nat) (fuel : Nat) (fn : Func) (args : List Value) (os : List AObj) : Option (Value × List AObj × List AObj) :=
  match fn.body with
  | some c => evT P M K sym fuel c ⟨args ++ List.replicate (fn.ntmps - args.length) undef, os.map some⟩ fun e s' => match e with
    | .exit _ => none
    | .normal => finA P M fn.results.toList os.length s'
    | .ret => finA P M fn.results.toList os.length s'
  | none => none

theorem acalls_of_finA {P : Program} {M : Mem} {f : FuncId} {fn : Func} {c : Code} (hf : P.funcs[f]? = some fn) (hb : fn.body = some c) {args : List Value} {os : List AObj} {e : AExit} {s' : ASt}
    (big : Big P M c ⟨args ++ List.replicate (fn.ntmps - args.length) undef, os.map some⟩ e s') (he : ∀ i, e ≠ .exit i) {v : Value} {os' ns : List AObj}
    (hfin : finA P M fn.results.toList os.length s' = some (v, os', ns)) : ACalls P M f args os v os' ns := by
  unfold finA at hfin
  split at hfin
  · exact acalls_of_big hf hb big he hfin
  · cases hfin

theorem acalls_of_evFT {P : Program} {M : Mem} {K : Fns} (hK : K.Sound P M) (hmix : P.follows .mixedOrders = true) {f : FuncId} {fn : Func} (hf : P.funcs[f]? = some fn) {sym : List Nat} {fuel : Nat} {args : List Value} {os : List AObj} {v : Value} {os' ns : List AObj}
    (h : evFT P M K sym fuel fn args os = some (v, os', ns)) : ACalls P M f args os v os' ns := by
  unfold evFT at h
  split at h
  · rename_i c hc
    rw [evT_eq] at h
    cases hev : ev P M K fuel c ⟨args ++ List.replicate (fn.ntmps - args.length) undef, os.map some⟩ with
    | none => rw [hev] at h; cases h
    | some r =>
      obtain ⟨e, s'⟩ := r
      rw [hev] at h
      have hb := (ev_sound hK hmix fuel c hev).1
      cases e with
      | exit i => cases h
      | normal => exact acalls_of_finA hf hc hb (fun i hi => by cases hi) h
      | ret => exact acalls_of_finA hf hc hb (fun i hi => by cases hi) h
  · cases h

/-- A callee evaluated in place. -/
def inl (P : Program) (M : Mem) (K : Fns) (fuel : Nat) (f : FuncId) (fn : Func) : Sum :=
  { f := f, ro := false, S := fun args os => evFT P M K [] fuel fn args os }

theorem inl_sound {P : Program} {M : Mem} {K : Fns} (hK : K.Sound P M) (hmix : P.follows .mixedOrders = true) {fuel : Nat} {f : FuncId} {fn : Func} (hf : P.funcs[f]? = some fn) (hn : (fn.name == "runtime.NumGoroutine") = false) (hb : fn.body.isSome = true) :
    (inl P M K fuel f fn).Sound P M := fun args os v os' ns h =>
  ⟨.inl ⟨enters_of hf hn hb, acalls_of_evFT hK hmix hf h⟩, fun hr => by cases hr⟩

/-- A known function out of its contract. -/
theorem sum_sound {P : Program} {M : Mem} {s : Sum} {fn : Func} (hf : P.funcs[s.f]? = some fn) (hn : (fn.name == "runtime.NumGoroutine") = false) (hb : fn.body.isSome = true)
    (h : ∀ args os v os' ns, s.S args os = some (v, os', ns) → ACalls P M s.f args os v os' ns ∧ (s.ro = true → os' = os)) : s.Sound P M := fun args os v os' ns hs =>
  ⟨.inl ⟨enters_of hf hn hb, (h args os v os' ns hs).1⟩, (h args os v os' ns hs).2⟩

theorem fns_nil {P : Program} {M : Mem} : (fns []).Sound P M := fns_sound (by simp)
theorem fns_cons {P : Program} {M : Mem} {s : Sum} {l : List Sum} (h : s.Sound P M) (hl : ∀ s ∈ l, s.Sound P M) : ∀ x ∈ s :: l, x.Sound P M := fun x hx => by
  rcases List.mem_cons.1 hx with rfl | hx
  · exact h
  · exact hl x hx

end Go.Ab

namespace Go.Ab

/-- Kinds of cells. -/
inductive CK where
  | int (k : IntKind)
  | bool

def ckOf (P : Program) (u : TypeId) : Option CK :=
  match P.underlying u with
  | some (.int k) => some (.int k)
  | some .bool => some .bool
  | _ => none

def cksOf (P : Program) : List TypeId → Option (List CK)
  | [] => some []
  | u :: r => match ckOf P u, cksOf P r with
    | some k, some l => some (k :: l)
    | _, _ => none

def flatK (P : Program) (t : TypeId) : Option (List CK) :=
  match P.underlying t with
  | some (.struct _) => match P.cellTypes P.depth t with
    | some ts => if Nat.beq ts.length (P.cellsOf t) then cksOf P ts else none
    | none => none
  | some (.array _ _) => match P.cellTypes P.depth t with
    | some ts => if Nat.beq ts.length (P.cellsOf t) then cksOf P ts else none
    | none => none
  | _ => none

def CV : CK → Value → Prop
  | .int k, v => ∃ n, v = .int k n ∧ k.has n
  | .bool, v => ∃ b, v = .bool b

def CVs : List CK → List Value → Prop
  | [], [] => True
  | k :: ks, v :: vs => CV k v ∧ CVs ks vs
  | _, _ => False

theorem CV.ground {k : CK} {v : Value} (h : CV k v) : ground v = true := by
  cases k with
  | int k => obtain ⟨n, rfl, _⟩ := h; rfl
  | bool => obtain ⟨b, rfl⟩ := h; rfl

theorem CVs.ground : ∀ {ks : List CK} {vs : List Value}, CVs ks vs → groundL vs = true := by
  intro ks
  induction ks with
  | nil => intro vs h; cases vs with
    | nil => rfl
    | cons v vs => exact absurd h (by simp [CVs])
  | cons k ks ih => intro vs h; cases vs with
    | nil => exact absurd h (by simp [CVs])
    | cons v vs => simp only [groundL, Bool.and_eq_true]; exact ⟨h.1.ground, ih h.2⟩

theorem cell_ok {P : Program} {W : World} {base : Nat} {u : TypeId} {v : Value} {k : CK} (hk : ckOf P u = some k) (h : Cell.okWide P W .any base u v) : CV k v := by
  unfold ckOf at hk
  split at hk
  · rename_i kk hu
    cases hk
    simp only [Cell.okWide, hu, Cell.ok] at h
    cases v <;> simp only [hu] at h
    case int k' n => exact ⟨n, by rw [h.1], h.2⟩
    all_goals exact absurd h id
  · rename_i hu
    cases hk
    simp only [Cell.okWide, hu, Cell.ok] at h
    cases v <;> simp only [hu] at h
    case bool b => exact ⟨b, rfl⟩
    all_goals exact absurd h id
  · cases hk

theorem value_ok {P : Program} {W : World} {base : Nat} {t : TypeId} {v : Value} {k : CK} (hk : ckOf P t = some k) (h : Value.okWide P W .any base t v) : CV k v := by
  refine cell_ok (W := W) (base := base) hk ?_
  unfold ckOf at hk
  unfold Value.okWide at h
  split at hk <;> first | (rename_i hu; rw [hu] at h; exact h) | (rename_i kk hu; rw [hu] at h; exact h) | cases hk

theorem cksOf_get {P : Program} : ∀ {ts : List TypeId} {ks : List CK}, cksOf P ts = some ks → ∀ (vs : List Value), vs.length = ts.length → (∀ (i : Nat) v u k, vs[i]? = some v → ts[i]? = some u → ckOf P u = some k → CV k v) → CVs ks vs := by
  intro ts
  induction ts with
  | nil =>
    intro ks h vs hl hc
    cases h
    cases vs with
    | nil => trivial
    | cons v vs => simp at hl
  | cons u ts ih =>
    intro ks h vs hl hc
    simp only [cksOf] at h
    split at h
    · rename_i k l h1 h2
      cases h
      cases vs with
      | nil => simp at hl
      | cons v vs =>
        refine ⟨hc 0 v u k rfl rfl h1, ih h2 vs (by simpa using hl) fun i v' u' k' a b c => hc (i + 1) v' u' k' (by simpa using a) (by simpa using b) c⟩
    · cases h

theorem flat_ok {P : Program} {W : World} {base : Nat} {t : TypeId} {v : Value} {ks : List CK} (hk : flatK P t = some ks) (h : Value.okWide P W .any base t v) : ∃ cs : List Value, v = .agg ⟨cs⟩ ∧ CVs ks cs := by
  have key : ∀ ts, P.cellTypes P.depth t = some ts → ts.length = P.cellsOf t → cksOf P ts = some ks → (∃ cs, v = .agg cs ∧ cs.size = P.cellsOf t ∧ Row.okWide P W .any base t cs) → ∃ cs : List Value, v = .agg ⟨cs⟩ ∧ CVs ks cs := by
    rintro ts h1 h2 h3 ⟨cs, rfl, hs, ts', h4, _, h5⟩
    rw [h1] at h4
    cases h4
    refine ⟨cs.toList, rfl, cksOf_get h3 _ (by simp [hs, h2]) fun i v u k hv hu hc => ?_⟩
    have hi : i < ts.length := (List.getElem?_eq_some_iff.1 hu).1
    obtain ⟨u', hu', hcell⟩ := h5 i v (by simpa using hv)
    rw [Nat.mod_eq_of_lt hi, hu] at hu'
    cases hu'
    exact cell_ok hc hcell
  unfold flatK at hk
  unfold Value.okWide at h
  split at hk
  · rename_i hu
    rw [hu] at h
    split at hk
    · rename_i ts hts
      split at hk
      · rename_i hb
        exact key ts hts (Nat.eq_of_beq_eq_true hb) hk h
      · cases hk
    · cases hk
  · rename_i hu
    rw [hu] at h
    split at hk
    · rename_i ts hts
      split at hk
      · rename_i hb
        exact key ts hts (Nat.eq_of_beq_eq_true hb) hk h
      · cases hk
    · cases hk
  · cases hk

/-- Bytes out of cells. -/
theorem cvs_ints {k : IntKind} : ∀ {n : Nat} {vs : List Value}, CVs (List.replicate n (.int k)) vs → ∃ l : List Int, l.length = n ∧ vs = l.map (.int k) ∧ ∀ x ∈ l, k.has x := by
  intro n
  induction n with
  | zero => intro vs h; cases vs with
    | nil => exact ⟨[], rfl, rfl, by simp⟩
    | cons v vs => exact absurd h (by simp [CVs])
  | succ n ih => intro vs h; cases vs with
    | nil => exact absurd h (by simp [CVs, List.replicate_succ])
    | cons v vs =>
      rw [List.replicate_succ] at h
      obtain ⟨⟨x, rfl, hx⟩, h2⟩ := h
      obtain ⟨l, rfl, rfl, hl⟩ := ih h2
      exact ⟨x :: l, by simp, by simp, fun y hy => by
        rcases List.mem_cons.1 hy with rfl | hy
        · exact hx
        · exact hl y hy⟩

/-- The answer of a loop that compares cell by cell. -/
def eqR : List Value → List Value → Option (Value × List AObj × List AObj)
  | .int _ x :: xs, .int _ y :: ys => match !decide (x = y) with
    | true => some (.bool false, [], [])
    | false => eqR xs ys
  | [], [] => some (.bool true, [], [])
  | _, _ => none

def eqB : List Value → List Value → Bool
  | .int _ x :: xs, .int _ y :: ys => decide (x = y) && eqB xs ys
  | [], [] => true
  | _, _ => false

theorem eqR_eq {k : IntKind} : ∀ {xs ys : List Int}, xs.length = ys.length → eqR (xs.map (.int k)) (ys.map (.int k)) = some (.bool (eqB (xs.map (.int k)) (ys.map (.int k))), [], []) := by
  intro xs
  induction xs with
  | nil => intro ys h; cases ys with
    | nil => rfl
    | cons y ys => simp at h
  | cons x xs ih => intro ys h; cases ys with
    | nil => simp at h
    | cons y ys =>
      simp only [List.map_cons, eqR, eqB]
      by_cases e : x = y
      · simp only [e, decide_true, Bool.not_true, Bool.true_and]; exact ih (by simpa using h)
      · simp only [e, decide_false, Bool.not_false, Bool.false_and]

theorem eqB_self {k : IntKind} : ∀ (xs : List Int), eqB (xs.map (.int k)) (xs.map (.int k)) = true := by
  intro xs
  induction xs with
  | nil => rfl
  | cons x xs ih => simp only [List.map_cons, eqB, decide_true, Bool.true_and]; exact ih

/-- Cells of one kind by their numbers. -/
def cellsI (k : IntKind) (n : Nat) (x : Nat → Int) : List Value := (List.range n).map fun i => .int k (x i)

theorem cellsI_length (k : IntKind) (n : Nat) (x : Nat → Int) : (cellsI k n x).length = n := by simp [cellsI]

theorem map_cellsI (k : IntKind) (l : List Int) : l.map (.int k) = cellsI k l.length fun i => l.getD i 0 := by
  apply List.ext_getElem (by simp [cellsI])
  intro i h1 h2
  simp at h1
  simp [cellsI, List.getD_eq_getElem?_getD, h1]

theorem cvs_cells {k : IntKind} (h0 : k.has 0) {n : Nat} {vs : List Value} (h : CVs (List.replicate n (.int k)) vs) : ∃ x : Nat → Int, vs = cellsI k n x ∧ ∀ i, k.has (x i) := by
  obtain ⟨l, hl, rfl, hr⟩ := cvs_ints h
  refine ⟨fun i => l.getD i 0, by rw [map_cellsI, hl], fun i => ?_⟩
  show k.has (l.getD i 0)
  rw [List.getD_eq_getElem?_getD]
  by_cases hi : i < l.length
  · rw [List.getElem?_eq_getElem hi]; exact hr _ (List.getElem_mem hi)
  · rw [List.getElem?_eq_none (by omega)]; exact h0

theorem cvs_append {ks ks' : List CK} : ∀ {vs : List Value}, CVs (ks ++ ks') vs → ∃ us us', vs = us ++ us' ∧ CVs ks us ∧ CVs ks' us' := by
  induction ks with
  | nil => intro vs h; exact ⟨[], vs, rfl, trivial, h⟩
  | cons k ks ih => intro vs h; cases vs with
    | nil => exact absurd h (by simp [CVs])
    | cons v vs =>
      obtain ⟨us, us', rfl, h2, h3⟩ := ih h.2
      exact ⟨v :: us, us', rfl, ⟨h.1, h2⟩, h3⟩

theorem cvs_cons {k : CK} {ks : List CK} {vs : List Value} (h : CVs (k :: ks) vs) : ∃ v us, vs = v :: us ∧ CV k v ∧ CVs ks us := by
  cases vs with
  | nil => exact absurd h (by simp [CVs])
  | cons v vs => exact ⟨v, vs, rfl, h.1, h.2⟩

theorem cvs_nil {vs : List Value} (h : CVs [] vs) : vs = [] := by
  cases vs with
  | nil => rfl
  | cons v vs => exact absurd h (by simp [CVs])

theorem groundL_cellsI (k : IntKind) (n : Nat) (x : Nat → Int) : groundL (cellsI k n x) = true := (groundL_iff _).2 fun v hv => by
  obtain ⟨i, _, rfl⟩ := List.mem_map.1 hv; rfl

/-- Functions that compare two arrays of n bytes. -/
def eqS (n : Nat) (args : List Value) (os : List AObj) : Option (Value × List AObj × List AObj) :=
  match args, os with
  | [.agg ⟨xs⟩, .agg ⟨ys⟩], [] => match byteInts xs, byteInts ys with
    | some l, some l' => if Nat.beq l.length n && Nat.beq l'.length n then some (.bool (eqB xs ys), [], []) else none
    | _, _ => none
  | _, _ => none

def eqSum (f : FuncId) (n : Nat) : Sum := { f := f, ro := true, S := eqS n }

theorem eqSum_sound {P : Program} {M : Mem} (hmix : P.follows .mixedOrders = true) {f : FuncId} {fn : Func} (hf : P.funcs[f]? = some fn) (hn : (fn.name == "runtime.NumGoroutine") = false) (hb : fn.body.isSome = true) {n : Nat} {sym : List Nat} {fuel : Nat}
    (h : ∀ x y : Nat → Int, evFT P M (fns []) sym fuel fn [.agg ⟨cellsI .u8 n x⟩, .agg ⟨cellsI .u8 n y⟩] [] = eqR (cellsI .u8 n x) (cellsI .u8 n y)) : (eqSum f n).Sound P M := by
  refine sum_sound hf hn hb fun args os v os' ns hs => ?_
  simp only [eqSum, eqS] at hs ⊢
  split at hs
  · rename_i xs ys
    split at hs
    · rename_i l l' hl hl'
      split at hs
      · rename_i hc
        cases hs
        simp only [Bool.and_eq_true] at hc
        have h1 := Nat.eq_of_beq_eq_true hc.1
        have h2 := Nat.eq_of_beq_eq_true hc.2
        have e1 := byteInts_eq hl
        have e2 := byteInts_eq hl'
        subst e1 e2
        refine ⟨acalls_of_evFT fns_nil hmix hf (sym := sym) (fuel := fuel) ?_, fun _ => rfl⟩
        rw [← eqR_eq (by omega)]
        rw [map_cellsI, map_cellsI, h1, h2]
        exact h _ _
      · cases hs
    · cases hs
  · cases hs

theorem len0 {α : Type} {l : List α} (h : l.length = 0) : l = [] := List.length_eq_zero_iff.1 h
theorem len1 {α : Type} {l : List α} (h : l.length = 1) : ∃ a, l = [a] := by
  cases l with
  | nil => simp at h
  | cons a l => exact ⟨a, by rw [len0 (l := l) (by simpa using h)]⟩
theorem len2 {α : Type} {l : List α} (h : l.length = 2) : ∃ a b, l = [a, b] := by
  cases l with
  | nil => simp at h
  | cons a l => obtain ⟨b, rfl⟩ := len1 (l := l) (by simpa using h); exact ⟨a, b, rfl⟩
theorem len3 {α : Type} {l : List α} (h : l.length = 3) : ∃ a b c, l = [a, b, c] := by
  cases l with
  | nil => simp at h
  | cons a l => obtain ⟨b, c, rfl⟩ := len2 (l := l) (by simpa using h); exact ⟨a, b, c, rfl⟩
theorem len4 {α : Type} {l : List α} (h : l.length = 4) : ∃ a b c d, l = [a, b, c, d] := by
  cases l with
  | nil => simp at h
  | cons a l => obtain ⟨b, c, d, rfl⟩ := len3 (l := l) (by simpa using h); exact ⟨a, b, c, d, rfl⟩

theorem held_one {b c : Bool} (h : b = c) : Held [(b, c)] := fun x hx => by
  rcases List.mem_cons.1 hx with rfl | hx
  · exact h
  · cases hx
theorem held_cons {b c : Bool} {p : Pins} (h : b = c) (hp : Held p) : Held ((b, c) :: p) := fun x hx => by
  rcases List.mem_cons.1 hx with rfl | hx
  · exact h
  · exact hp x hx

theorem range_getD (l : List Int) : (List.range l.length).map (fun i => l.getD i 0) = l := by
  apply List.ext_getElem (by simp)
  intro i h1 h2
  simp [List.getD_eq_getElem?_getD, h2]

end Go.Ab

namespace Go.Ab

theorem srcCells_cell {M : Mem} {m : Pl} {h : AHeap} {w : World} (r : HRel M m h w) {a a' : Addr} {n c c' : Nat} (hr : VRel m h (.slice (some a) n c) (.slice (some a') n c')) {look : Nat → Option AObj} (hlook : ∀ j o, look j = some o → hget h j = some o)
    {us : List Value} {f : Bool} (hs : srcCells M 1 look n (.slice (some a) n c) = some (us, f)) : us.length = n ∧ ∀ (j : Nat) u, us[j]? = some u → ∃ v, w.cell? (a'.add j) = some v ∧ VRel m h u v := by
  obtain ⟨b, off, spot⟩ := a
  cases spot with
  | some sz =>
    simp only [srcCells] at hs
    split at hs
    · rename_i o ho
      split at hs
      · rename_i hc
        cases hs
        have ho' := hlook _ _ ho
        rw [Nat.mul_one] at hc ⊢
        refine ⟨by simp; omega, fun j u hu => ?_⟩
        rw [List.getElem?_take] at hu
        split at hu
        · rename_i hj
          rw [List.getElem?_drop] at hu
          obtain ⟨v, h1, h2, _⟩ := acell_sound r (hr.slc_at (by omega)) (j := j) (u := u) (by simp only [acell, ho', hc.1, if_true]; exact hu)
          exact ⟨v, h1, h2⟩
        · cases hu
      · cases hs
    · cases hs
  | none =>
    simp only [srcCells] at hs
    split at hs
    · rename_i l hl
      split at hs
      · cases hs
        obtain ⟨g1, g2⟩ := roload_get _ _ _ hl
        have hp : VRel m h (.pointer (some ⟨b, off, none⟩)) (.pointer (some a')) := by
          cases hr with
          | same hg => exact .same rfl
        refine ⟨by omega, fun j u hu => ?_⟩
        obtain ⟨v, h1, h2, _⟩ := acell_sound r hp (j := j) (u := u) (by simp only [acell]; exact g2 j u hu)
        exact ⟨v, h1, h2⟩
      · cases hs
    · cases hs

/-- The bytes that a string or a slice holds. -/
def bytesIn (M : Mem) (os : List AObj) (v : Value) : Option (List Int) :=
  match srcN v with
  | some n => match srcCells M 1 (fun j => os[j]?) n v with
    | some (us, _) => byteInts us
    | none => none
  | none => none

theorem byteInts_strCells (l : List UInt8) : byteInts (l.map fun b => Value.int .u8 b.toNat) = some (l.map fun b => (b.toNat : Int)) := by
  induction l with
  | nil => rfl
  | cons b l ih => simp only [List.map_cons, byteInts, ih]

theorem bytesOf_back (l : List UInt8) : Lib.bytesOf (l.map fun b => (b.toNat : Int)) = l := by
  induction l with
  | nil => rfl
  | cons b l ih =>
    simp only [Lib.bytesOf, List.map_cons, List.cons.injEq] at ih ⊢
    exact ⟨by simp, ih⟩

theorem bytesIn_sound {P : Program} {M : Mem} {m : Pl} {os : List AObj} {w : World} (r : HRel M m (os.map some) w) {u v : Value} (hv : VRel m (os.map some) u v) {l : List Int} (h : bytesIn M os u = some l) :
    (Extern.Bytes.bytesOf v).run P w = .ok ⟨(Lib.bytesOf l).toArray⟩ w := by
  unfold bytesIn at h
  split at h
  · rename_i n hn
    split at h
    · rename_i us f hs
      obtain ⟨vs, hrun, hrel, hul, hone, hgr⟩ := srcCells_sound (P := P) r hv (fun j p hp => by rw [hget_map]; exact hp) hs
      have hus := byteInts_eq h
      subst hus
      have hvs := hrel.eq (groundL_bytes l)
      subst hvs
      unfold srcN at hn
      split at hn
      · cases hn
        have := hv.eq rfl
        subst this
        have : l = [] := by simpa using hul
        subst this
        rfl
      · rename_i a ln c
        cases hn
        obtain ⟨a', c', hv'⟩ := hv.slc_inv
        subst hv'
        obtain ⟨h1, h3⟩ := srcCells_cell r hv (fun j p hp => by rw [hget_map]; exact hp) hs
        have hln : n = l.length := by simpa using h1.symm
        subst hln
        have := Lib.run_loadBytesX (P := P) w l a' .empty fun j x hj => by
          obtain ⟨v, h4, h5⟩ := h3 j (.int .u8 x) (by simp [hj])
          rw [h4, h5.int]
        show (Extern.Bytes.loadBytes a' l.length .empty).run P w = _
        rw [this]
        congr 1
        apply ByteArray.ext
        show (#[] : Array UInt8) ++ (Lib.bytesOf l).toArray = (Lib.bytesOf l).toArray
        simp
      · rename_i s
        cases hn
        have := hv.eq rfl
        subst this
        simp only [srcCells] at hs
        split at hs
        · have h' := h
          obtain ⟨h6, _⟩ := Prod.mk.inj (Option.some.inj hs)
          rw [← h6] at h'
          simp only [strCells] at h'
          rw [byteInts_strCells] at h'
          cases h'
          rw [bytesOf_back]
          have : s.data.toList.take s.size = s.data.toList := List.take_of_length_le (Nat.le_of_eq (by rw [Array.length_toList]; rfl))
          rw [this]
          rfl
        · cases hs
      · cases hn
    · cases h
  · cases h

def cmpSum (M : Mem) (f : FuncId) : Sum := { f := f, ro := true, S := fun args os => match args with
  | [u, v] => match bytesIn M os u, bytesIn M os v with
    | some a, some b => some (.int .i64 (Lib.compareBytes (Lib.bytesOf a) (Lib.bytesOf b)), os, [])
    | _, _ => none
  | _ => none }

theorem cmpSum_sound {P : Program} {M : Mem} {f : FuncId} {fn : Func} (hf : P.funcs[f]? = some fn) (hname : (fn.name == "runtime.NumGoroutine") = false) (hb : fn.body.isNone = true) (hn : Extern.findNext fn = none) (he : Extern.find fn = some Extern.BytealgCompare.compare) :
    (cmpSum M f).Sound P M := by
  intro args os v os' ns hs
  simp only [cmpSum] at hs
  split at hs
  · rename_i u v2
    split at hs
    · rename_i a b ha hb2
      cases hs
      refine ⟨.inr ⟨rfl, rfl, fun m w args' r hargs => ?_⟩, fun _ => rfl⟩
      obtain ⟨x, hx, hxr⟩ := hargs.get (i := 0) rfl
      obtain ⟨y, hy, hyr⟩ := hargs.get (i := 1) rfl
      have hl : args'.toList.length = 2 := hargs.1.symm
      obtain ⟨x', y', hxy⟩ := len2 hl
      rw [hxy] at hx hy
      cases hx; cases hy
      have hargs' : args' = #[x, y] := by cases args'; simp_all
      subst hargs'
      refine ⟨_, ?_, .same rfl⟩
      show (callFunc f #[x, y]).run P w = _
      rw [run_callFunc_extern hf hname hb hn he]
      have h1 := bytesIn_sound (P := P) r hxr ha
      have h2 := bytesIn_sound (P := P) r hyr hb2
      have : (Extern.BytealgCompare.compare #[x, y]).run P w = .ok (.int .i64 (Lib.compareBytes (Lib.bytesOf a) (Lib.bytesOf b))) w := by
        change Sem.run P (do pure (goInt (Extern.BytealgCompare.cmp (← Extern.Bytes.bytesOf x) (← Extern.Bytes.bytesOf y)))) w = _
        simp only [Sem.run_bind, h1, h2, Result.andThen_ok, Sem.run_pure]
        rw [Lib.cmp_eq]
        rfl
      rw [this]
      rfl
    · cases hs
  · cases hs

theorem compare_neg : ∀ a b : List UInt8, (decide (Lib.compareBytes a b < 0)) = Op.bytesLess a b := by
  intro a
  induction a with
  | nil => intro b; cases b <;> rfl
  | cons x a ih =>
    intro b
    cases b with
    | nil => rfl
    | cons y b =>
      simp only [Lib.compareBytes, Op.bytesLess]
      by_cases h1 : x < y
      · simp [h1]
      · by_cases h2 : y < x
        · have : ¬ x = y := by rintro rfl; exact absurd h2 h1
          simp [h1, h2, this]
        · have : x = y := UInt8.le_antisymm (UInt8.not_lt.1 h2) (UInt8.not_lt.1 h1)
          simp only [h1, h2, if_false]
          rw [ih]
          simp [this]

end Go.Ab

namespace Go.Ab

def heldB (p : Pins) : Bool := p.all fun x => x.1 == x.2

theorem heldB_iff {p : Pins} : heldB p = true ↔ Held p := by
  simp only [heldB, List.all_eq_true, Held]
  constructor
  · intro h x hx; have := h x hx; simpa using this
  · intro h x hx; simp [h x hx]

/-- A contract holds where its conditions do. -/
def Sum.SoundC (P : Program) (M : Mem) (s : Sum) : Prop := ∀ args os v os' ns, s.S args os = some (v, os', ns) → Held (s.C args os) → Answers P M s.f args os v os' ns ∧ (s.ro = true → os' = os)

theorem Sum.Sound.c {P : Program} {M : Mem} {s : Sum} (h : s.Sound P M) : s.SoundC P M := fun args os v os' ns hs _ => h args os v os' ns hs

/-- The contracts, where their conditions hold. -/
def fnsC (l : List Sum) : Fns where
  F := fun f args os => match sumFind l f with
    | some s => if heldB (s.C args os) then s.S args os else none
    | none => none
  ro := fun f => match sumFind l f with
    | some s => s.ro
    | none => false

theorem fnsC_sound {P : Program} {M : Mem} {l : List Sum} (h : ∀ s ∈ l, s.SoundC P M) : (fnsC l).Sound P M := by
  intro f args os v os' ns hF
  simp only [fnsC] at hF ⊢
  split at hF
  · rename_i s hs
    obtain ⟨h1, rfl⟩ := sumFind_mem hs
    split at hF
    · rename_i hc
      obtain ⟨h4, h5⟩ := h s h1 _ _ _ _ _ hF (heldB_iff.1 hc)
      exact ⟨h4, fun hr => h5 hr⟩
    · cases hF
  · cases hF

theorem consC {P : Program} {M : Mem} {s : Sum} {l : List Sum} (h : s.SoundC P M) (hl : ∀ s ∈ l, s.SoundC P M) : ∀ x ∈ s :: l, x.SoundC P M := fun x hx => by
  rcases List.mem_cons.1 hx with rfl | hx
  · exact h
  · exact hl x hx
theorem nilC {P : Program} {M : Mem} : ∀ x ∈ ([] : List Sum), x.SoundC P M := fun x hx => by cases hx

def pinsF (l : List Sum) (f : FuncId) (args : List Value) (os : List AObj) : Pins :=
  match sumFind l f with
  | some s => s.C args os
  | none => []

theorem F_eq {l : List Sum} {f : FuncId} {args : List Value} {os : List AObj} (hp : Held (pinsF l f args os)) : (fnsC l).F f args os = (fns l).F f args os := by
  unfold pinsF at hp
  simp only [fns, fnsC]
  cases hs : sumFind l f with
  | none => rfl
  | some s => rw [hs] at hp; simp only [heldB_iff.2 hp, if_true]

theorem ro_eq (l : List Sum) (f : FuncId) : (fnsC l).ro f = (fns l).ro f := rfl

/-- The conditions of a call. -/
def callPins (l : List Sum) (cl : List Nat → List Nat) (h : AHeap) (f : FuncId) (args : List Value) : Pins :=
  match renL (idx (cl (idsL [] args))) args, gather h (cl (idsL [] args)) with
  | some largs, some rs => match renOs (idx (cl (idsL [] args))) rs with
    | some lo => pinsF l f largs lo
    | none => []
  | _, _ => []

def opPins (l : List Sum) (cl : List Nat → List Nat) (ρ : Operand → Option Value) (h : AHeap) (op : Op) : Pins :=
  match op with
  | .call ⟨.value fx, xs, ts⟩ => match ρ fx, avals ρ xs.toList with
    | some (.func (.func f) fi ca), some us => callPins l cl h f (fi.toList ++ us ++ ca.toList)
    | _, _ => []
  | _ => []

theorem callAct_pins {l : List Sum} {cl : List Nat → List Nat} {h : AHeap} {f : FuncId} {args : List Value} (hp : Held (callPins l cl h f args)) :
    (callAct (fns l) (cl (idsL [] args)) f args = none ↔ callAct (fnsC l) (cl (idsL [] args)) f args = none) ∧
    ∀ act act', callAct (fns l) (cl (idsL [] args)) f args = some act → callAct (fnsC l) (cl (idsL [] args)) f args = some act' → act'.rd = act.rd ∧ act'.wt = act.wt ∧ ∀ b, act'.run b h = act.run b h ∧ act'.cnt b h = act.cnt b h := by
  unfold callPins at hp
  simp only [callAct, ro_eq]
  generalize cl (idsL [] args) = L at hp ⊢
  by_cases hnd : nodupB L = true
  · simp only [hnd, if_true]
    cases hla : renL (idx L) args with
    | none => simp
    | some largs =>
      simp only [hla] at hp ⊢
      by_cases hro : (fns l).ro f = true
      · simp only [hro, if_true]
        refine ⟨by simp, fun act act' h1 h2 => ?_⟩
        cases h1; cases h2
        refine ⟨rfl, rfl, fun b => ?_⟩
        simp only [AAct.run, AAct.cnt]
        cases hg : gather h L with
        | none => exact ⟨rfl, rfl⟩
        | some rs =>
          simp only [hg] at hp
          cases hlo : renOs (idx L) rs with
          | none => simp [gather, hlo]
          | some lo =>
            simp only [hlo] at hp
            simp [gather, hlo, F_eq hp]
      · simp only [hro]
        refine ⟨by simp, fun act act' h1 h2 => ?_⟩
        cases h1; cases h2
        refine ⟨rfl, rfl, fun b => ?_⟩
        simp only [AAct.run, AAct.cnt]
        cases hg : gather h L with
        | none => exact ⟨by simp [gather], by simp [gather]⟩
        | some rs =>
          simp only [hg] at hp
          cases hlo : renOs (idx L) rs with
          | none => simp [gather, hlo]
          | some lo =>
            simp only [hlo] at hp
            simp [gather, hlo, F_eq hp]
  · simp [hnd]

/-- Where the conditions of an operation hold, both contracts give the same. -/
theorem opAct_pins {P : Program} {M : Mem} {l : List Sum} {cl : List Nat → List Nat} {ρ : Operand → Option Value} {h : AHeap} {op : Op} (hp : Held (opPins l cl ρ h op)) :
    (opAct P M (fns l) cl ρ op = none ↔ opAct P M (fnsC l) cl ρ op = none) ∧
    ∀ act act', opAct P M (fns l) cl ρ op = some act → opAct P M (fnsC l) cl ρ op = some act' → act'.rd = act.rd ∧ act'.wt = act.wt ∧ ∀ b, act'.run b h = act.run b h ∧ act'.cnt b h = act.cnt b h := by
  have same : opAct P M (fns l) cl ρ op = opAct P M (fnsC l) cl ρ op → (opAct P M (fns l) cl ρ op = none ↔ opAct P M (fnsC l) cl ρ op = none) ∧
      ∀ act act', opAct P M (fns l) cl ρ op = some act → opAct P M (fnsC l) cl ρ op = some act' → act'.rd = act.rd ∧ act'.wt = act.wt ∧ ∀ b, act'.run b h = act.run b h ∧ act'.cnt b h = act.cnt b h := fun e => by
    rw [e]
    exact ⟨Iff.rfl, fun act act' h1 h2 => by rw [h1] at h2; cases h2; exact ⟨rfl, rfl, fun b => ⟨rfl, rfl⟩⟩⟩
  unfold opPins at hp
  split at hp
  · rename_i fx xs ts
    simp only [opAct]
    cases hf : ρ fx with
    | none => simp
    | some v =>
      cases ha : avals ρ xs.toList with
      | none => cases v <;> simp
      | some us =>
        cases v with
        | func fn fi ca =>
          cases fn with
          | func f =>
            rw [hf, ha] at hp
            exact callAct_pins hp
          | _ => simp
        | _ => simp
  · rename_i hne
    refine same ?_
    unfold opAct
    split <;> first | rfl | (exact absurd rfl (hne _ _ _))

section
variable {P : Program} {M : Mem} {l : List Sum} {cl : List Nat → List Nat} {ops : Array Oper}

/-- The conditions of an operation, if it is wanted. -/
def operPins (l : List Sum) (cl : List Nat → List Nat) (ops : Array Oper) (o : Oper) (s : ASt) : Pins :=
  if awanted ops s.tmps o then opPins l cl (aev s.tmps) s.heap o.op else []

theorem ostep_pins {o : Oper} {s : ASt} {b : Nat} (hp : Held (operPins l cl ops o s)) : ostep P M (fnsC l) cl ops b o s = ostep P M (fns l) cl ops b o s ∧ ofp P M (fnsC l) cl ops b o s = ofp P M (fns l) cl ops b o s := by
  unfold operPins at hp
  unfold ostep ofp
  by_cases hw : awanted ops s.tmps o = true
  · rw [if_pos hw] at hp
    simp only [hw, if_true]
    obtain ⟨h1, h2⟩ := opAct_pins (P := P) (M := M) hp
    cases ha : opAct P M (fns l) cl (aev s.tmps) o.op with
    | none => simp [h1.1 ha]
    | some act =>
      cases hb : opAct P M (fnsC l) cl (aev s.tmps) o.op with
      | none => rw [h1.2 hb] at ha; cases ha
      | some act' =>
        obtain ⟨e1, e2, e3⟩ := h2 act act' ha hb
        simp only [e1, e2, (e3 b).1, (e3 b).2]
        exact ⟨trivial, trivial⟩
  · simp only [hw]
    exact ⟨rfl, rfl⟩
end

section
variable (P : Program) (M : Mem) (l : List Sum) (sym : List Nat)

def rrunsC (cl : List Nat → List Nat) (ops : Array Oper) : List Nat → ASt → List Bool → Option (ASt × List Bool × Pins)
  | [], s, orc => some (s, orc, [])
  | i :: is, s, orc => match ops[i]? with
    | none => rrunsC cl ops is s orc
    | some o => match ostep P M (fns l) cl ops s.heap.length o s with
      | some s' => match pin sym o.dst s' orc with
        | (s1, o1, p1) => match rrunsC cl ops is s1 o1 with
          | some (s2, o2, p2) => some (s2, o2, operPins l cl ops o s ++ (p1 ++ p2))
          | none => none
      | none => none

def rtraceC (cl : List Nat → List Nat) (ops : Array Oper) : List Nat → ASt → List Bool → Option (ASt × List FP × List Bool × Pins)
  | [], s, orc => some (s, [], orc, [])
  | i :: is, s, orc => match ops[i]? with
    | none => none
    | some o => match ostep P M (fns l) cl ops s.heap.length o s with
      | some s' => match pin sym o.dst s' orc with
        | (s1, o1, p1) => match rtraceC cl ops is s1 o1 with
          | some (s2, fps, o2, p2) => some (s2, ofp P M (fns l) cl ops s.heap.length o s :: fps, o2, operPins l cl ops o s ++ (p1 ++ p2))
          | none => none
      | none => none

def rdrawC (cl : List Nat → List Nat) (ops : Array Oper) (s : ASt) (orc : List Bool) : Option (ASt × List Bool × Pins) :=
  match rtraceC P M l sym cl ops (List.range ops.size) s orc with
  | some (s', fps, o1, p1) => if okEdges ops && okPairs ops (befs ops.toList []) fps then some (s', o1, p1) else none
  | none => none

def rgnC (ops : Array Oper) (draw : Bool) (s : ASt) (orc : List Bool) : Option (ASt × List Bool × Pins) :=
  if draw then rdrawC P M l sym (clos s.heap s.heap.length) ops s orc else rrunsC P M l sym (clos s.heap s.heap.length) ops (List.range ops.size) s orc

def evC : Nat → Code → ASt → List Bool → Option (AExit × ASt × List Bool × Pins)
  | 0, _, _, _ => none
  | n + 1, c, s, orc => match c with
    | .skip => some (.normal, s, orc, [])
    | .label _ => some (.normal, s, orc, [])
    | .exit id => some (.exit id, s, orc, [])
    | .ret => some (.ret, s, orc, [])
    | .region _ ops draw => match rgnC P M l sym ops draw s orc with
      | some (s', o1, p1) => some (.normal, s', o1, p1)
      | none => none
    | .seq x y => match evC n x s orc with
      | some (.normal, s1, o1, p1) => match evC n y s1 o1 with
        | some (e, s2, o2, p2) => some (e, s2, o2, p1 ++ p2)
        | none => none
      | r => r
    | .cond c x y => match aev s.tmps c with
      | some (.bool b) => match b with
        | true => evC n x s orc
        | false => evC n y s orc
      | _ => none
    | .block id c => match evC n c s orc with
      | some (.exit i, s1, o1, p1) => if i = id then some (.normal, s1, o1, p1) else some (.exit i, s1, o1, p1)
      | r => r
    | .loop c => match evC n c s orc with
      | some (.normal, s1, o1, p1) => match evC n (.loop c) s1 o1 with
        | some (e, s2, o2, p2) => some (e, s2, o2, p1 ++ p2)
        | none => none
      | r => r
    | _ => none
end

section
variable {P : Program} {M : Mem} {l : List Sum} {sym : List Nat}

theorem rrunsC_eq {cl : List Nat → List Nat} {ops : Array Oper} : ∀ (is : List Nat) {s s' : ASt} {orc r : List Bool} {p : Pins}, rrunsC P M l sym cl ops is s orc = some (s', r, p) → Held p → rruns P M (fnsC l) cl ops is s = some s' := by
  intro is
  induction is with
  | nil => intro s s' orc r p h _; cases h; rfl
  | cons i is ih =>
    intro s s' orc r p h hp
    simp only [rrunsC] at h
    simp only [rruns]
    cases ho : ops[i]? with
    | none => simp only [ho] at h ⊢; exact ih h hp
    | some o =>
      simp only [ho] at h ⊢
      cases h0 : ostep P M (fns l) cl ops s.heap.length o s with
      | none => simp only [h0] at h; cases h
      | some s0 =>
        simp only [h0] at h
        cases h2 : rrunsC P M l sym cl ops is (pin sym o.dst s0 orc).1 (pin sym o.dst s0 orc).2.1 with
        | none => simp only [h2] at h; cases h
        | some x =>
          obtain ⟨s2, o2, p2⟩ := x
          simp only [h2] at h
          cases h
          rw [(ostep_pins hp.left).1, h0]
          rw [pin_eq (s' := (pin sym o.dst s0 orc).1) rfl hp.right.left] at h2
          exact ih h2 hp.right.right

theorem rtraceC_eq {cl : List Nat → List Nat} {ops : Array Oper} : ∀ (is : List Nat) {s s' : ASt} {orc r : List Bool} {p : Pins} {fps : List FP}, rtraceC P M l sym cl ops is s orc = some (s', fps, r, p) → Held p → rtrace P M (fnsC l) cl ops is s = some (s', fps) := by
  intro is
  induction is with
  | nil => intro s s' orc r p fps h _; cases h; rfl
  | cons i is ih =>
    intro s s' orc r p fps h hp
    simp only [rtraceC] at h
    simp only [rtrace]
    cases ho : ops[i]? with
    | none => simp only [ho] at h; cases h
    | some o =>
      simp only [ho] at h ⊢
      cases h0 : ostep P M (fns l) cl ops s.heap.length o s with
      | none => simp only [h0] at h; cases h
      | some s0 =>
        simp only [h0] at h
        cases h2 : rtraceC P M l sym cl ops is (pin sym o.dst s0 orc).1 (pin sym o.dst s0 orc).2.1 with
        | none => simp only [h2] at h; cases h
        | some x =>
          obtain ⟨s2, fps2, o2, p2⟩ := x
          simp only [h2] at h
          cases h
          rw [(ostep_pins hp.left).1, h0, (ostep_pins hp.left).2]
          rw [pin_eq (s' := (pin sym o.dst s0 orc).1) rfl hp.right.left] at h2
          simp only [ih h2 hp.right.right]

theorem rgnC_eq {ops : Array Oper} {draw : Bool} {s s' : ASt} {orc r : List Bool} {p : Pins} (h : rgnC P M l sym ops draw s orc = some (s', r, p)) (hp : Held p) : rgn P M (fnsC l) ops draw s = some s' := by
  unfold rgnC at h
  unfold rgn
  cases draw with
  | true =>
    simp only [if_true] at h ⊢
    unfold rdrawC at h
    unfold rdraw
    cases h1 : rtraceC P M l sym (clos s.heap s.heap.length) ops (List.range ops.size) s orc with
    | none => simp only [h1] at h; cases h
    | some x =>
      obtain ⟨s1, fps, o1, p1⟩ := x
      simp only [h1] at h
      cases hok : okEdges ops && okPairs ops (befs ops.toList []) fps with
      | false => rw [hok] at h; cases h
      | true =>
        rw [hok] at h
        cases h
        rw [rtraceC_eq _ h1 hp]
        simp only [hok, if_true]
  | false =>
    simp only [Bool.false_eq_true, if_false] at h ⊢
    exact rrunsC_eq _ h hp

theorem evC_eq : ∀ (n : Nat) (c : Code) {s s' : ASt} {orc r : List Bool} {p : Pins} {e : AExit}, evC P M l sym n c s orc = some (e, s', r, p) → Held p → ev P M (fnsC l) n c s = some (e, s') := by
  intro n
  induction n with
  | zero => intro c s s' orc r p e h; cases h
  | succ n ih =>
    intro c s s' orc r p e h hp
    cases c <;> simp only [evC] at h <;> simp only [ev]
    case skip => cases h; rfl
    case label => cases h; rfl
    case exit => cases h; rfl
    case ret => cases h; rfl
    case region id ops draw =>
      cases h1 : rgnC P M l sym ops draw s orc with
      | none => rw [h1] at h; cases h
      | some x =>
        obtain ⟨s1, o1, p1⟩ := x
        simp only [h1] at h
        cases h
        rw [rgnC_eq h1 hp]
    case seq x y =>
      cases h1 : evC P M l sym n x s orc with
      | none => rw [h1] at h; cases h
      | some a =>
        obtain ⟨e1, s1, o1, p1⟩ := a
        rw [h1] at h
        cases e1 with
        | normal =>
          simp only at h
          cases h2 : evC P M l sym n y s1 o1 with
          | none => rw [h2] at h; cases h
          | some b =>
            obtain ⟨e2, s2, o2, p2⟩ := b
            rw [h2] at h
            cases h
            rw [ih x h1 hp.left]
            exact ih y h2 hp.right
        | exit i => cases h; rw [ih x h1 hp]
        | ret => cases h; rw [ih x h1 hp]
    case cond c x y =>
      cases hb : aev s.tmps c with
      | none => rw [hb] at h; cases h
      | some v =>
        rw [hb] at h
        cases v with
        | bool b => cases b <;> simp only at h ⊢ <;> exact ih _ h hp
        | _ => cases h
    case block id c =>
      cases h1 : evC P M l sym n c s orc with
      | none => rw [h1] at h; cases h
      | some a =>
        obtain ⟨e1, s1, o1, p1⟩ := a
        rw [h1] at h
        cases e1 with
        | normal => cases h; rw [ih c h1 hp]
        | ret => cases h; rw [ih c h1 hp]
        | exit i =>
          simp only at h
          by_cases hi : i = id
          · rw [if_pos hi] at h; cases h; rw [ih c h1 hp]; simp [hi]
          · rw [if_neg hi] at h; cases h; rw [ih c h1 hp]; simp [hi]
    case loop c =>
      cases h1 : evC P M l sym n c s orc with
      | none => rw [h1] at h; cases h
      | some a =>
        obtain ⟨e1, s1, o1, p1⟩ := a
        rw [h1] at h
        cases e1 with
        | normal =>
          simp only at h
          cases h2 : evC P M l sym n (.loop c) s1 o1 with
          | none => rw [h2] at h; cases h
          | some b =>
            obtain ⟨e2, s2, o2, p2⟩ := b
            rw [h2] at h
            cases h
            rw [ih c h1 hp.left]
            exact ih _ h2 hp.right
        | exit i => cases h; rw [ih c h1 hp]
        | ret => cases h; rw [ih c h1 hp]
    all_goals cases h
end

/-- A function's body, evaluated, some answers being foretold, under its callees' conditions. -/
def evFC (P : Program) (M : Mem) (l : List Sum) (sym : List Nat) (fuel : Nat) (fn : Func) (args : List Value) (os : List AObj) (orc : List Bool) : Option ((Value × List AObj × List AObj) × Pins) :=
  match fn.body with
  | some c => match evC P M l sym fuel c ⟨args ++ List.replicate (fn.ntmps - args.length) undef, os.map some⟩ orc with
    | some (.exit _, _) => none
    | some (_, s', _, p) => match finA P M fn.results.toList os.length s' with
      | some r => some (r, p)
      | none => none
    | none => none
  | none => none

theorem acalls_of_evFC {P : Program} {M : Mem} {l : List Sum} (hl : ∀ s ∈ l, s.SoundC P M) (hmix : P.follows .mixedOrders = true) {f : FuncId} {fn : Func} (hf : P.funcs[f]? = some fn) {sym : List Nat} {fuel : Nat} {args : List Value} {os : List AObj} {orc : List Bool} {v : Value} {os' ns : List AObj} {p : Pins}
    (h : evFC P M l sym fuel fn args os orc = some ((v, os', ns), p)) (hp : Held p) : ACalls P M f args os v os' ns := by
  unfold evFC at h
  cases hb : fn.body with
  | none => rw [hb] at h; cases h
  | some c =>
    rw [hb] at h
    simp only at h
    cases hev : evC P M l sym fuel c ⟨args ++ List.replicate (fn.ntmps - args.length) undef, os.map some⟩ orc with
    | none => rw [hev] at h; cases h
    | some x =>
      obtain ⟨e, s', o1, p1⟩ := x
      rw [hev] at h
      cases e with
      | exit i => cases h
      | normal =>
        simp only at h
        cases hfin : finA P M fn.results.toList os.length s' with
        | none => rw [hfin] at h; cases h
        | some r =>
          rw [hfin] at h
          cases h
          exact acalls_of_finA hf hb (ev_sound (fnsC_sound hl) hmix fuel c (evC_eq _ _ hev hp)).1 (fun i hi => by cases hi) hfin
      | ret =>
        simp only at h
        cases hfin : finA P M fn.results.toList os.length s' with
        | none => rw [hfin] at h; cases h
        | some r =>
          rw [hfin] at h
          cases h
          exact acalls_of_finA hf hb (ev_sound (fnsC_sound hl) hmix fuel c (evC_eq _ _ hev hp)).1 (fun i hi => by cases hi) hfin

/-- A callee evaluated in place, its callees under conditions of their own that are shown here. -/
def inlC (P : Program) (M : Mem) (l : List Sum) (sym : List Nat) (fuel : Nat) (f : FuncId) (fn : Func) (orc : List Bool) : Sum :=
  { f := f, ro := false
    S := fun args os => match evFC P M l sym fuel fn args os orc with
      | some (r, _) => some r
      | none => none
    C := fun args os => match evFC P M l sym fuel fn args os orc with
      | some (_, p) => p
      | none => [] }

theorem inlC_sound {P : Program} {M : Mem} {l : List Sum} (hl : ∀ s ∈ l, s.SoundC P M) (hmix : P.follows .mixedOrders = true) {sym : List Nat} {fuel : Nat} {f : FuncId} {fn : Func} {orc : List Bool} (hf : P.funcs[f]? = some fn) (hn : (fn.name == "runtime.NumGoroutine") = false) (hb : fn.body.isSome = true) :
    (inlC P M l sym fuel f fn orc).SoundC P M := fun args os v os' ns h hp => by
  simp only [inlC] at h hp
  cases hx : evFC P M l sym fuel fn args os orc with
  | none => rw [hx] at h; cases h
  | some x =>
    obtain ⟨r, p⟩ := x
    rw [hx] at h hp
    cases h
    exact ⟨.inl ⟨enters_of hf hn hb, acalls_of_evFC hl hmix hf hx hp⟩, fun hr => by cases hr⟩

theorem sumC_sound {P : Program} {M : Mem} {s : Sum} {fn : Func} (hf : P.funcs[s.f]? = some fn) (hn : (fn.name == "runtime.NumGoroutine") = false) (hb : fn.body.isSome = true)
    (h : ∀ args os v os' ns, s.S args os = some (v, os', ns) → Held (s.C args os) → ACalls P M s.f args os v os' ns ∧ (s.ro = true → os' = os)) : s.SoundC P M := fun args os v os' ns hs hp =>
  ⟨.inl ⟨enters_of hf hn hb, (h args os v os' ns hs hp).1⟩, (h args os v os' ns hs hp).2⟩

/-- An integer fits its kind. -/
def hasB (k : IntKind) (n : Int) : Bool := decide (k.min ≤ n) && decide (n ≤ k.max)
theorem hasB_iff {k : IntKind} {n : Int} : hasB k n = true ↔ k.has n := by simp [hasB, IntKind.has]

theorem cellsI_congr {k : IntKind} {n : Nat} {x y : Nat → Int} (h : ∀ i, i < n → x i = y i) : cellsI k n x = cellsI k n y := by
  unfold cellsI
  apply List.map_congr_left
  intro i hi
  rw [h i (List.mem_range.1 hi)]

theorem eqB_cells (k : IntKind) (n : Nat) (x : Nat → Int) : eqB (cellsI k n x) (cellsI k n x) = true := by
  have := eqB_self (k := k) ((List.range n).map x)
  rw [List.map_map] at this
  exact this

theorem wrap_u8 (n : Int) : IntKind.wrap .u8 n = n % 256 := by simp [IntKind.wrap, IntKind.bits, IntKind.signed]
theorem wrap_u16 (n : Int) : IntKind.wrap .u16 n = n % 65536 := by simp [IntKind.wrap, IntKind.bits, IntKind.signed]
theorem wrap_u32 (n : Int) : IntKind.wrap .u32 n = n % 4294967296 := by simp [IntKind.wrap, IntKind.bits, IntKind.signed]
theorem wrap_u64 (n : Int) : IntKind.wrap .u64 n = n % 18446744073709551616 := by simp [IntKind.wrap, IntKind.bits, IntKind.signed]
theorem wrap_i64 {n : Int} (h1 : -9223372036854775808 ≤ n) (h2 : n ≤ 9223372036854775807) : IntKind.wrap .i64 n = n := by
  simp [IntKind.wrap, IntKind.bits, IntKind.signed]
  split <;> omega
theorem has_i64 {n : Int} (h : IntKind.i64.has n) : -9223372036854775808 ≤ n ∧ n ≤ 9223372036854775807 := h
theorem has_u8 {n : Int} (h : IntKind.u8.has n) : 0 ≤ n ∧ n ≤ 255 := h
theorem has_u16 {n : Int} (h : IntKind.u16.has n) : 0 ≤ n ∧ n ≤ 65535 := h
theorem has_u32 {n : Int} (h : IntKind.u32.has n) : 0 ≤ n ∧ n ≤ 4294967295 := h
theorem has_u64 {n : Int} (h : IntKind.u64.has n) : 0 ≤ n ∧ n ≤ 18446744073709551615 := h

end Go.Ab

namespace Go.Ab

/-- What an operation does if its checks, recorded, are so. -/
abbrev Ov := AHeap → (Operand → Option Value) → Op → Option (AAct × Pins)

def OvOk (P : Program) (M : Mem) (ov : Ov) : Prop := ∀ (K : Fns) (cl : List Nat → List Nat) (h : AHeap) (ρ : Operand → Option Value) (op : Op) (act : AAct) (p : Pins), ov h ρ op = some (act, p) → Held p →
  ∃ act0, opAct P M K cl ρ op = some act0 ∧ act0.rd = act.rd ∧ act0.wt = act.wt ∧ ∀ b, act0.run b h = act.run b h ∧ act0.cnt b h = act.cnt b h

/-- Is the operation one of those named (by where its answer goes; a store by where its address lies)? -/
def selOp (uns : List Nat) (o : Oper) : Bool :=
  match o.dst with
  | some d => memN d uns
  | none => match o.op with
    | .store _ (.tmp t) _ => memN t uns
    | _ => false

/-- What is known of a block of code: by its number. -/
abbrev Hooks := List (Nat × (ASt → Option (AExit × ASt × Pins)))

def findH (id : Nat) : Hooks → Option (ASt → Option (AExit × ASt × Pins))
  | [] => none
  | (i, f) :: r => if Nat.beq i id then some f else findH id r

section
variable (P : Program) (M : Mem) (ov : Ov) (uns : List Nat) (lp : Hooks) (l : List Sum) (sym : List Nat)

def ostepU (cl : List Nat → List Nat) (ops : Array Oper) (b : Nat) (o : Oper) (s : ASt) : Option (ASt × FP × Pins) :=
  if awanted ops s.tmps o then
    if selOp uns o then match ov s.heap (aev s.tmps) o.op with
      | some (act, p) => match act.run b s.heap with
        | some (v, h') => some (⟨aput s.tmps o.dst v, h'⟩, ⟨act.rd, act.wt, b, act.cnt b s.heap⟩, p)
        | none => none
      | none => none
    else match opAct P M (fns l) cl (aev s.tmps) o.op with
      | some act => match act.run b s.heap with
        | some (v, h') => some (⟨aput s.tmps o.dst v, h'⟩, ⟨act.rd, act.wt, b, act.cnt b s.heap⟩, opPins l cl (aev s.tmps) s.heap o.op)
        | none => none
      | none => none
  else some (⟨aput s.tmps o.dst undef, s.heap⟩, ⟨[], [], b, 0⟩, [])

def rtraceU (cl : List Nat → List Nat) (ops : Array Oper) : List Nat → ASt → List Bool → Option (ASt × List FP × List Bool × Pins)
  | [], s, orc => some (s, [], orc, [])
  | i :: is, s, orc => match ops[i]? with
    | none => none
    | some o => match ostepU P M ov uns l cl ops s.heap.length o s with
      | some (s', fp, p0) => match pin sym o.dst s' orc with
        | (s1, o1, p1) => match rtraceU cl ops is s1 o1 with
          | some (s2, fps, o2, p2) => some (s2, fp :: fps, o2, p0 ++ (p1 ++ p2))
          | none => none
      | none => none

def rgnU (ops : Array Oper) (draw : Bool) (s : ASt) (orc : List Bool) : Option (ASt × List Bool × Pins) :=
  match rtraceU P M ov uns l sym (clos s.heap s.heap.length) ops (List.range ops.size) s orc with
  | some (s', fps, o1, p1) => if draw then (if okEdges ops && okPairs ops (befs ops.toList []) fps then some (s', o1, p1) else none) else some (s', o1, p1)
  | none => none

def evU : Nat → Code → ASt → List Bool → Option (AExit × ASt × List Bool × Pins)
  | 0, _, _, _ => none
  | n + 1, c, s, orc => match c with
    | .skip => some (.normal, s, orc, [])
    | .label _ => some (.normal, s, orc, [])
    | .exit id => some (.exit id, s, orc, [])
    | .ret => some (.ret, s, orc, [])
    | .region _ ops draw => match rgnU P M ov uns l sym ops draw s orc with
      | some (s', o1, p1) => some (.normal, s', o1, p1)
      | none => none
    | .seq x y => match evU n x s orc with
      | some (.normal, s1, o1, p1) => match evU n y s1 o1 with
        | some (e, s2, o2, p2) => some (e, s2, o2, p1 ++ p2)
        | none => none
      | r => r
    | .cond c x y => match aev s.tmps c with
      | some (.bool b) => match b with
        | true => evU n x s orc
        | false => evU n y s orc
      | _ => none
    | .block id c => match findH id lp with
      | some f => match f s with
        | some (e, s1, p1) => some (e, s1, orc, p1)
        | none => none
      | none => match evU n c s orc with
        | some (.exit i, s1, o1, p1) => if i = id then some (.normal, s1, o1, p1) else some (.exit i, s1, o1, p1)
        | r => r
    | .loop c => match evU n c s orc with
      | some (.normal, s1, o1, p1) => match evU n (.loop c) s1 o1 with
        | some (e, s2, o2, p2) => some (e, s2, o2, p1 ++ p2)
        | none => none
      | r => r
    | _ => none
end

/-- What is known of the blocks within this code is so. -/
def HooksOk (P : Program) (M : Mem) (lp : Hooks) : Code → Prop
  | .seq x y => HooksOk P M lp x ∧ HooksOk P M lp y
  | .cond _ x y => HooksOk P M lp x ∧ HooksOk P M lp y
  | .block id c => match findH id lp with
    | some f => ∀ s e s' p, f s = some (e, s', p) → Held p → Big P M (.block id c) s e s'
    | none => HooksOk P M lp c
  | .loop c => HooksOk P M lp c
  | _ => True

theorem hooksOk_nil {P : Program} {M : Mem} : ∀ c : Code, HooksOk P M [] c := by
  intro c
  induction c with
  | seq x y ih1 ih2 => exact ⟨ih1, ih2⟩
  | cond c x y ih1 ih2 => exact ⟨ih1, ih2⟩
  | block id c ih => exact ih
  | loop c ih => exact ih
  | _ => trivial

/-- The bodies of the blocks with this number. -/
def occ (id : Nat) : Code → List Code
  | .seq x y => occ id x ++ occ id y
  | .cond _ x y => occ id x ++ occ id y
  | .block i c => if Nat.beq i id then c :: occ id c else occ id c
  | .loop c => occ id c
  | _ => []

theorem hooksOk_occ {P : Program} {M : Mem} {lp : Hooks} : ∀ c : Code, (∀ id f, findH id lp = some f → ∀ c' ∈ occ id c, ∀ s e s' p, f s = some (e, s', p) → Held p → Big P M (.block id c') s e s') → HooksOk P M lp c := by
  intro c
  induction c with
  | seq x y ih1 ih2 => intro h; exact ⟨ih1 fun id f hf c' hc => h id f hf c' (by simp [occ, hc]), ih2 fun id f hf c' hc => h id f hf c' (by simp [occ, hc])⟩
  | cond c x y ih1 ih2 => intro h; exact ⟨ih1 fun id f hf c' hc => h id f hf c' (by simp [occ, hc]), ih2 fun id f hf c' hc => h id f hf c' (by simp [occ, hc])⟩
  | loop c ih => intro h; exact ih fun id f hf c' hc => h id f hf c' (by simpa [occ] using hc)
  | block i c ih =>
    intro h
    simp only [HooksOk]
    split
    · rename_i f hf
      exact h i f hf c (by simp [occ])
    · exact ih fun id f hf c' hc => h id f hf c' (by simp only [occ]; split <;> simp [hc])
  | _ => intro _; trivial

section
variable {P : Program} {M : Mem} {ov : Ov} {uns : List Nat} {lp : Hooks} {l : List Sum} {sym : List Nat}

theorem ostepU_eq (hov : OvOk P M ov) {cl : List Nat → List Nat} {ops : Array Oper} {b : Nat} {o : Oper} {s s' : ASt} {fp : FP} {p : Pins} (h : ostepU P M ov uns l cl ops b o s = some (s', fp, p)) (hp : Held p) :
    ostep P M (fnsC l) cl ops b o s = some s' ∧ ofp P M (fnsC l) cl ops b o s = fp := by
  unfold ostepU at h
  unfold ostep ofp
  by_cases hw : awanted ops s.tmps o = true
  · simp only [hw, if_true] at h ⊢
    by_cases hs : selOp uns o = true
    · simp only [hs, if_true] at h
      cases ha : ov s.heap (aev s.tmps) o.op with
      | none => rw [ha] at h; cases h
      | some x =>
        obtain ⟨act, p1⟩ := x
        rw [ha] at h
        simp only at h
        cases hr : act.run b s.heap with
        | none => rw [hr] at h; cases h
        | some y =>
          obtain ⟨v, h'⟩ := y
          rw [hr] at h
          cases h
          obtain ⟨act0, e0, e1, e2, e3⟩ := hov (fnsC l) cl _ _ _ _ _ ha hp
          rw [e0]
          simp only [(e3 b).1, hr, e1, e2, (e3 b).2, and_self]
    · simp only [hs] at h
      cases ha : opAct P M (fns l) cl (aev s.tmps) o.op with
      | none => rw [ha] at h; cases h
      | some act =>
        rw [ha] at h
        simp only at h
        cases hr : act.run b s.heap with
        | none => rw [hr] at h; cases h
        | some y =>
          obtain ⟨v, h'⟩ := y
          rw [hr] at h
          cases h
          obtain ⟨h1, h2⟩ := opAct_pins (P := P) (M := M) hp
          cases hb : opAct P M (fnsC l) cl (aev s.tmps) o.op with
          | none => rw [h1.2 hb] at ha; cases ha
          | some act' =>
            obtain ⟨e1, e2, e3⟩ := h2 act act' ha hb
            simp only [(e3 b).1, hr, e1, e2, (e3 b).2, and_self]
  · simp only [hw] at h ⊢
    cases h
    exact ⟨rfl, rfl⟩

theorem rtraceU_eq (hov : OvOk P M ov) {cl : List Nat → List Nat} {ops : Array Oper} : ∀ (is : List Nat) {s s' : ASt} {orc r : List Bool} {p : Pins} {fps : List FP}, rtraceU P M ov uns l sym cl ops is s orc = some (s', fps, r, p) → Held p →
    rtrace P M (fnsC l) cl ops is s = some (s', fps) ∧ rruns P M (fnsC l) cl ops is s = some s' := by
  intro is
  induction is with
  | nil => intro s s' orc r p fps h _; cases h; exact ⟨rfl, rfl⟩
  | cons i is ih =>
    intro s s' orc r p fps h hp
    simp only [rtraceU] at h
    simp only [rtrace, rruns]
    cases ho : ops[i]? with
    | none => simp only [ho] at h; cases h
    | some o =>
      simp only [ho] at h ⊢
      cases h0 : ostepU P M ov uns l cl ops s.heap.length o s with
      | none => simp only [h0] at h; cases h
      | some x =>
        obtain ⟨s0, fp, p0⟩ := x
        simp only [h0] at h
        cases h2 : rtraceU P M ov uns l sym cl ops is (pin sym o.dst s0 orc).1 (pin sym o.dst s0 orc).2.1 with
        | none => simp only [h2] at h; cases h
        | some x =>
          obtain ⟨s2, fps2, o2, p2⟩ := x
          simp only [h2] at h
          cases h
          obtain ⟨e1, e2⟩ := ostepU_eq hov h0 hp.left
          rw [e1, e2]
          rw [pin_eq (s' := (pin sym o.dst s0 orc).1) rfl hp.right.left] at h2
          obtain ⟨i1, i2⟩ := ih h2 hp.right.right
          simp only [i1, i2, and_self]

theorem rgnU_eq (hov : OvOk P M ov) {ops : Array Oper} {draw : Bool} {s s' : ASt} {orc r : List Bool} {p : Pins} (h : rgnU P M ov uns l sym ops draw s orc = some (s', r, p)) (hp : Held p) : rgn P M (fnsC l) ops draw s = some s' := by
  unfold rgnU at h
  unfold rgn
  cases h1 : rtraceU P M ov uns l sym (clos s.heap s.heap.length) ops (List.range ops.size) s orc with
  | none => simp only [h1] at h; cases h
  | some x =>
    obtain ⟨s1, fps, o1, p1⟩ := x
    simp only [h1] at h
    cases draw with
    | true =>
      simp only [if_true] at h ⊢
      unfold rdraw
      cases hok : okEdges ops && okPairs ops (befs ops.toList []) fps with
      | false => rw [hok] at h; cases h
      | true =>
        rw [hok] at h
        cases h
        rw [(rtraceU_eq hov _ h1 hp).1]
        simp only [hok, if_true]
    | false =>
      simp only [Bool.false_eq_true, if_false] at h ⊢
      cases h
      exact (rtraceU_eq hov _ h1 hp).2

theorem evU_big (hov : OvOk P M ov) (hl : ∀ s ∈ l, s.SoundC P M) (hmix : P.follows .mixedOrders = true) : ∀ (n : Nat) (c : Code) {s s' : ASt} {orc r : List Bool} {p : Pins} {e : AExit}, HooksOk P M lp c → evU P M ov uns lp l sym n c s orc = some (e, s', r, p) → Held p →
    (Big P M c s e s') ∧ ∀ c', c = .loop c' → e ≠ .normal ∧ ∃ (st : Nat → ASt) (k : Nat), st 0 = s ∧ (∀ j, j < k → Big P M c' (st j) .normal (st (j + 1))) ∧ Big P M c' (st k) e s' := by
  have hK := fnsC_sound hl
  intro n
  induction n with
  | zero => intro c s s' orc r p e _ h; cases h
  | succ n ih =>
    intro c s s' orc r p e hh h hp
    cases c <;> simp only [evU] at h
    case skip => cases h; exact ⟨.skip, fun c' hc => by cases hc⟩
    case label => cases h; exact ⟨.label, fun c' hc => by cases hc⟩
    case exit => cases h; exact ⟨.exit, fun c' hc => by cases hc⟩
    case ret => cases h; exact ⟨.ret, fun c' hc => by cases hc⟩
    case region id ops draw =>
      refine ⟨?_, fun c' hc => by cases hc⟩
      cases h1 : rgnU P M ov uns l sym ops draw s orc with
      | none => rw [h1] at h; cases h
      | some x =>
        obtain ⟨s1, o1, p1⟩ := x
        rw [h1] at h
        cases h
        have h2 := rgnU_eq hov h1 hp
        cases draw with
        | true => exact Big.region_draw hK hmix _ h2
        | false => exact Big.region hK _ h2
    case seq x y =>
      refine ⟨?_, fun c' hc => by cases hc⟩
      cases h1 : evU P M ov uns lp l sym n x s orc with
      | none => rw [h1] at h; cases h
      | some a =>
        obtain ⟨e1, s1, o1, p1⟩ := a
        rw [h1] at h
        cases e1 with
        | normal =>
          simp only at h
          cases h2 : evU P M ov uns lp l sym n y s1 o1 with
          | none => rw [h2] at h; cases h
          | some b =>
            obtain ⟨e2, s2, o2, p2⟩ := b
            rw [h2] at h
            cases h
            exact Big.seq (ih x hh.1 h1 hp.left).1 (ih y hh.2 h2 hp.right).1
        | exit i => cases h; exact Big.seq_out (by simp) (ih x hh.1 h1 hp).1
        | ret => cases h; exact Big.seq_out (by simp) (ih x hh.1 h1 hp).1
    case cond c x y =>
      refine ⟨?_, fun c' hc => by cases hc⟩
      cases hb : aev s.tmps c with
      | none => rw [hb] at h; cases h
      | some v =>
        rw [hb] at h
        cases v with
        | bool b => cases b with
          | true => exact Big.cond hb (ih x hh.1 h hp).1
          | false => exact Big.cond hb (ih y hh.2 h hp).1
        | _ => cases h
    case block id c =>
      refine ⟨?_, fun c' hc => by cases hc⟩
      simp only [HooksOk] at hh
      cases hf : findH id lp with
      | some f =>
        rw [hf] at h hh
        simp only at h hh
        cases h1 : f s with
        | none => rw [h1] at h; cases h
        | some x =>
          obtain ⟨e1, s1, p1⟩ := x
          rw [h1] at h
          cases h
          exact hh _ _ _ _ h1 hp
      | none =>
        rw [hf] at h hh
        simp only at h hh
        cases h1 : evU P M ov uns lp l sym n c s orc with
        | none => rw [h1] at h; cases h
        | some a =>
          obtain ⟨e1, s1, o1, p1⟩ := a
          rw [h1] at h
          cases e1 with
          | normal => cases h; exact Big.block (id := id) (ih c hh h1 hp).1
          | ret => cases h; exact Big.block (id := id) (ih c hh h1 hp).1
          | exit i =>
            simp only at h
            by_cases hi : i = id
            · rw [if_pos hi] at h; cases h
              have := Big.block (id := id) (ih c hh h1 hp).1
              simpa [hi] using this
            · rw [if_neg hi] at h; cases h
              have := Big.block (id := id) (ih c hh h1 hp).1
              simpa [hi] using this
    case loop c =>
      have key : e ≠ .normal ∧ ∃ (st : Nat → ASt) (k : Nat), st 0 = s ∧ (∀ j, j < k → Big P M c (st j) .normal (st (j + 1))) ∧ Big P M c (st k) e s' := by
        cases h1 : evU P M ov uns lp l sym n c s orc with
        | none => rw [h1] at h; cases h
        | some a =>
          obtain ⟨e1, s1, o1, p1⟩ := a
          rw [h1] at h
          cases e1 with
          | normal =>
            simp only at h
            cases h2 : evU P M ov uns lp l sym n (.loop c) s1 o1 with
            | none => rw [h2] at h; cases h
            | some b =>
              obtain ⟨e2, s2, o2, p2⟩ := b
              rw [h2] at h
              cases h
              obtain ⟨hne, st, k, h3, h4, h5⟩ := (ih (.loop c) hh h2 hp.right).2 c rfl
              refine ⟨hne, fun j => match j with | 0 => s | j + 1 => st j, k + 1, rfl, fun j hj => ?_, h5⟩
              cases j with
              | zero => simp only [h3]; exact (ih c hh h1 hp.left).1
              | succ j => exact h4 j (by omega)
          | exit i => cases h; exact ⟨by simp, fun _ => s, 0, rfl, fun j hj => by omega, (ih c hh h1 hp).1⟩
          | ret => cases h; exact ⟨by simp, fun _ => s, 0, rfl, fun j hj => by omega, (ih c hh h1 hp).1⟩
      obtain ⟨hne, st, k, h2, h3, h4⟩ := key
      refine ⟨?_, fun c' hc => by cases hc; exact ⟨hne, st, k, h2, h3, h4⟩⟩
      rw [← h2]
      exact Big.loop hne st k h3 h4
    all_goals cases h
end

/-- A function's body so evaluated. -/
def evFU (P : Program) (M : Mem) (ov : Ov) (uns : List Nat) (lp : Hooks) (l : List Sum) (sym : List Nat) (fuel : Nat) (fn : Func) (args : List Value) (os : List AObj) (orc : List Bool) : Option ((Value × List AObj × List AObj) × Pins) :=
  match fn.body with
  | some c => match evU P M ov uns lp l sym fuel c ⟨args ++ List.replicate (fn.ntmps - args.length) undef, os.map some⟩ orc with
    | some (.exit _, _) => none
    | some (_, s', _, p) => match finA P M fn.results.toList os.length s' with
      | some r => some (r, p)
      | none => none
    | none => none
  | none => none

theorem acalls_of_evFU {P : Program} {M : Mem} {ov : Ov} (hov : OvOk P M ov) {uns : List Nat} {lp : Hooks} {l : List Sum} (hl : ∀ s ∈ l, s.SoundC P M) (hmix : P.follows .mixedOrders = true) {f : FuncId} {fn : Func} (hf : P.funcs[f]? = some fn) {sym : List Nat} {fuel : Nat} {args : List Value} {os : List AObj} {orc : List Bool} {v : Value} {os' ns : List AObj} {p : Pins}
    (hlp : HooksOk P M lp (fn.body.getD .skip)) (h : evFU P M ov uns lp l sym fuel fn args os orc = some ((v, os', ns), p)) (hp : Held p) : ACalls P M f args os v os' ns := by
  unfold evFU at h
  cases hb : fn.body with
  | none => rw [hb] at h; cases h
  | some c =>
    rw [hb] at h hlp
    simp only [Option.getD_some] at h hlp
    cases hev : evU P M ov uns lp l sym fuel c ⟨args ++ List.replicate (fn.ntmps - args.length) undef, os.map some⟩ orc with
    | none => rw [hev] at h; cases h
    | some x =>
      obtain ⟨e, s', o1, p1⟩ := x
      rw [hev] at h
      cases e with
      | exit i => cases h
      | normal =>
        simp only at h
        cases hfin : finA P M fn.results.toList os.length s' with
        | none => rw [hfin] at h; cases h
        | some r =>
          rw [hfin] at h
          cases h
          exact acalls_of_finA hf hb (evU_big hov hl hmix fuel c hlp hev hp).1 (fun i hi => by cases hi) hfin
      | ret =>
        simp only at h
        cases hfin : finA P M fn.results.toList os.length s' with
        | none => rw [hfin] at h; cases h
        | some r =>
          rw [hfin] at h
          cases h
          exact acalls_of_finA hf hb (evU_big hov hl hmix fuel c hlp hev hp).1 (fun i hi => by cases hi) hfin

end Go.Ab

namespace Go.Ab

def vint : Value → Int
  | .int _ n => n
  | _ => 0

def isI (k : IntKind) : Value → Bool
  | .int k' _ => decide (k' = k)
  | _ => false

theorem isI_eq {k : IntKind} {v : Value} (h : isI k v = true) : v = .int k (vint v) := by
  cases v <;> simp [isI] at h
  subst h
  rfl

def atC (l : List Value) (i : Nat) : Value := (l[i]?).getD undef

theorem isI_undef (k : IntKind) : isI k undef = false := rfl

theorem atC_some {k : IntKind} {l : List Value} {i : Nat} (h : isI k (atC l i) = true) : l[i]? = some (.int k (vint (atC l i))) := by
  have e := isI_eq h
  unfold atC at h e ⊢
  cases hl : l[i]? with
  | none => rw [hl] at h; rw [Option.getD_none, isI_undef] at h; cases h
  | some v => rw [hl] at e; simp only [Option.getD_some] at e ⊢; exact congrArg some e

def inB (k : Int) (len : Nat) : Bool := decide (0 ≤ k) && decide (k < (len : Int))

def ldB (k : IntKind) (o : AObj) (sz off : Nat) : Bool := decide (o.cells.length = sz) && isI k (atC o.cells off)

def roB (k : IntKind) (M : Mem) (b off : Nat) : Bool := isI k ((M b off).getD undef)

def stB (o : AObj) (sz off n : Nat) : Bool := decide (o.cells.length = sz) && decide (off + n ≤ sz)

def mkB (by_ : Nat) (n k : Int) : Bool := decide (0 ≤ n) && decide (n ≤ k) && decide (k ≤ 4611686018427387904) && decide ((by_ : Int) * k ≤ 281474976710656)

/-- An action that does this. -/
def uAct (rd wt : List Nat) (f : Nat → Value × List AObj × List AObj) : AAct := { rd := rd, wt := wt, f := fun b _ _ => some (f b) }

theorem uAct_same {act : AAct} {rd wt : List Nat} {f : Nat → Value × List AObj × List AObj} {h : AHeap} {rs os : List AObj} (h1 : act.rd = rd) (h2 : act.wt = wt) (h3 : gather h rd = some rs) (h4 : gather h wt = some os) (h5 : ∀ b, act.f b rs os = some (f b)) :
    act.rd = (uAct rd wt f).rd ∧ act.wt = (uAct rd wt f).wt ∧ ∀ b, act.run b h = (uAct rd wt f).run b h ∧ act.cnt b h = (uAct rd wt f).cnt b h := by
  refine ⟨h1, h2, fun b => ?_⟩
  simp only [AAct.run, AAct.cnt, uAct, h1, h2, h3, h4, h5, and_self]

def uLow : Option Value → Nat
  | some (.int _ n) => n.toNat
  | _ => 0
def uHigh (d : Nat) : Option Value → Nat
  | some (.int _ n) => n.toNat
  | _ => d

/-- What an operation takes from a slice or a string. -/
def uSrc (M : Mem) (h : AHeap) (k n : Nat) : Value → Option (List Value × Bool × Bool)
  | .slice none _ _ => some ([], true, decide (n = 0))
  | .slice (some ⟨j, off, some sz⟩) len _ => match hget h j with
    | some o => some ((o.cells.drop off).take (n * k), o.flat, decide (o.cells.length = sz) && (decide (off + n * k ≤ sz) && decide (n ≤ len)))
    | none => none
  | .slice (some ⟨b, off, none⟩) len _ => some ((List.range (n * k)).map fun j => (M b (off + j)).getD undef, true, (List.range (n * k)).all (fun j => (M b (off + j)).isSome) && decide (n ≤ len))
  | .string s => some (strCells s n, true, decide (k = 1) && decide (n ≤ s.size))
  | _ => none

theorem roload_range {M : Mem} {b : Nat} : ∀ (n off : Nat), ((List.range n).all fun j => (M b (off + j)).isSome) = true → aload.roload M b off n = some ((List.range n).map fun j => (M b (off + j)).getD undef) := by
  intro n
  induction n with
  | zero => intro off _; rfl
  | succ n ih =>
    intro off h
    rw [List.range_succ_eq_map] at h ⊢
    simp only [List.all_cons, Bool.and_eq_true, List.all_map, Nat.add_zero] at h
    have h2 := ih (off + 1) (by
      rw [List.all_eq_true] at h ⊢
      intro x hx
      have := h.2 x hx
      simpa [Nat.add_assoc, Nat.add_comm 1 x] using this)
    simp only [aload.roload]
    obtain ⟨v, hv⟩ := Option.isSome_iff_exists.1 h.1
    simp only [hv, h2, List.map_cons, Nat.add_zero, Option.getD_some, List.map_map]
    congr 2
    apply List.map_congr_left
    intro x _
    simp [Nat.add_assoc, Nat.add_comm 1 x]

theorem uSrc_eq {M : Mem} {h : AHeap} {k n : Nat} {v : Value} {us : List Value} {f c : Bool} (hu : uSrc M h k n v = some (us, f, c)) (hc : c = true) {look : Nat → Option AObj} (hlook : ∀ j ∈ srcFp v, look j = hget h j) : srcCells M k look n v = some (us, f) := by
  subst hc
  unfold uSrc at hu
  split at hu
  · simp only [Option.some.injEq, Prod.mk.injEq, decide_eq_true_eq] at hu
    obtain ⟨rfl, rfl, rfl⟩ := hu
    rfl
  · rename_i j off sz len cp
    split at hu
    · rename_i o ho
      simp only [Option.some.injEq, Prod.mk.injEq, Bool.and_eq_true, decide_eq_true_eq] at hu
      obtain ⟨rfl, rfl, h1, h2, h3⟩ := hu
      simp only [srcCells, hlook j (by simp [srcFp]), ho, h1, h2, h3, and_self, if_true]
    · cases hu
  · rename_i b off len cp
    simp only [Option.some.injEq, Prod.mk.injEq, Bool.and_eq_true, decide_eq_true_eq] at hu
    obtain ⟨rfl, rfl, h1, h2⟩ := hu
    simp only [srcCells, roload_range _ _ h1, h2, if_true]
  · rename_i s
    simp only [Option.some.injEq, Prod.mk.injEq, Bool.and_eq_true, decide_eq_true_eq] at hu
    obtain ⟨rfl, rfl, h1, h2⟩ := hu
    simp only [srcCells, h1, h2, and_self, if_true]
  · cases hu

/-- The operations without their checks. -/
def ovStd (P : Program) (M : Mem) : Ov := fun h ρ op => match op with
  | .indexAddr t x i => match P.underlying t, ρ x, ρ i with
    | some (.slice e), some (.slice (some a) len _), some (.int _ k) => match szOf P e with
      | some n => some (uAct [] [] fun _ => (.pointer (some (aadd a (k.toNat * n))), [], []), [(inB k len, true)])
      | none => none
    | some (.array len e), some (.pointer (some a)), some (.int _ k) => match szOf P e with
      | some n => some (uAct [] [] fun _ => (.pointer (some (aadd a (k.toNat * n))), [], []), [(inB k len, true)])
      | none => none
    | _, _, _ => none
  | .load t x => match P.underlying t, ρ x with
    | some (.int k), some (.pointer (some ⟨b, off, some sz⟩)) => match hget h b with
      | some o => some (uAct [b] [] fun _ => (.int k (vint (atC o.cells off)), [], []), [(ldB k o sz off, true)])
      | none => none
    | some (.int k), some (.pointer (some ⟨b, off, none⟩)) => some (uAct [] [] fun _ => (.int k (vint ((M b off).getD undef)), [], []), [(roB k M b off, true)])
    | _, _ => none
  | .store t x y => match ρ x, ρ y with
    | some (.pointer (some ⟨b, off, some sz⟩)), some v => match szOf P t, hget h b with
      | some n, some o => if Nat.beq v.cells.toList.length n && okL o.flat v.cells.toList then some (uAct [] [b] fun _ => (undef, [{ o with cells := wr o.cells off v.cells.toList }], []), [(stB o sz off n, true)]) else none
      | _, _ => none
    | _, _ => none
  | .makeSlice t x y => match P.underlying t, ρ x, ρ y with
    | some (.slice e), some (.int _ n), some (.int _ k) => match szOf P e, zeroOf P e, flatT P e, bytesT P e with
      | some sz, some z, some f, some by_ => if Nat.beq z.length sz && okL f z then
          some (uAct [] [] fun b => (slcTo n.toNat k.toNat (k.toNat * sz) b, [], [⟨zcells z k.toNat, true, sz, f⟩]), [(mkB by_ n k, true)]) else none
      | _, _, _, _ => none
    | _, _, _ => none
  | .slice t x lo hi none => match P.underlying t, ρ x, pv.optv ρ lo, pv.optv ρ hi with
    | some (.slice e), some (.slice (some ⟨b, off, some sz⟩) len cap), some l, some u => match szOf P e, hget h b with
      | some k, some o => if (!o.grow) || Nat.beq o.esz k then some (uAct [b] [] fun _ => (.slice (some (aadd ⟨b, off, some sz⟩ (uLow l * k))) (uHigh len u - uLow l) (cap - uLow l), [], []),
          [(decide (abounds len cap l u none = some (uLow l, uHigh len u, cap)), true)]) else none
      | _, _ => none
    | some (.slice e), some (.slice (some ⟨b, off, none⟩) len cap), some l, some u => match szOf P e with
      | some k => some (uAct [] [] fun _ => (.slice (some (if cap = uLow l then ⟨b, off, none⟩ else aadd ⟨b, off, none⟩ (uLow l * k))) (uHigh len u - uLow l) (cap - uLow l), [], []),
          [(decide (abounds len cap l u none = some (uLow l, uHigh len u, cap)), true)])
      | _ => none
    | _, _, _, _ => none
  | .call ⟨.builtin .append, ⟨[x, y]⟩, ⟨[t1, t2]⟩⟩ => match P.underlying t1, P.underlying t2, ρ x, ρ y with
    | some (.slice e), some d2, some (.slice (some ⟨i, off, some sz⟩) len cap), some v => match szOf P e, bytesT P e, flatT P e, zeroOf P e, srcN v, hget h i with
      | some k, some by_, some fl, some z, some n, some o => match uSrc M h k n v with
        | some (us, fs, c) =>
          if srcT d2 && Nat.blt 0 k && Nat.blt 0 by_ && Nat.beq z.length k && okL fl z && o.grow then
            match gather h ((srcFp v).filter (· ≠ i)) with
            | some _ => some (uAct ((srcFp v).filter (· ≠ i)) [i] fun _ => (.slice (some ⟨i, 0, some ((len + n) * k)⟩) (len + n) (len + n), [{ o with cells := o.cells.take (len * k) ++ us }], []),
                [(Nat.beq off 0 && (Nat.beq o.esz k && (decide (cap = len) && (decide (sz = len * k) && (decide (o.cells.length = sz) && (room (len + n) by_ && (okC o.flat us fs && c)))))), true)])
            | none => none
          else none
        | none => none
      | _, _, _, _, _, _ => none
    | _, _, _, _ => none
  | .call ⟨.builtin .copy, ⟨[x, y]⟩, ⟨[t1, t2]⟩⟩ => match P.underlying t1, ρ x, ρ y with
    | some (.slice e), some (.slice (some ⟨i, off, some sz⟩) dl _), some v => match szOf P e, srcN v, hget h i with
      | some k, some ns, some o => match uSrc M h k (Nat.min ns dl) v with
        | some (us, fs, c) => match gather h ((srcFp v).filter (· ≠ i)) with
          | some _ => some (uAct ((srcFp v).filter (· ≠ i)) [i] fun _ => (.int .i64 (Nat.min ns dl : Nat), [{ o with cells := wr o.cells off us }], []),
              [(decide (o.cells.length = sz) && (decide (off + Nat.min ns dl * k ≤ sz) && (okC o.flat us fs && c)), true)])
          | none => none
        | none => none
      | _, _, _ => none
    | _, _, _ => none
  | .convert s d x => match P.underlying s, P.underlying d, ρ x with
    | some (.slice e), some .string, some (.slice (some a) n cp) => match P.underlying e, uSrc M h 1 n (.slice (some a) n cp), gather h (srcFp (.slice (some a) n cp)) with
      | some (.int .u8), some (us, _, c), some _ => some (uAct (srcFp (.slice (some a) n cp)) [] fun _ => (.string ⟨((us.map vint).map fun n => UInt8.ofNat n.toNat).toArray⟩, [], []), [(us.all (isI .u8) && c, true)])
      | _, _, _ => none
    | _, _, _ => none
  | _ => none

theorem held_one_iff {b c : Bool} : Held [(b, c)] ↔ b = c := ⟨fun h => h _ (List.Mem.head _), held_one⟩

theorem inB_iff {k : Int} {len : Nat} : inB k len = true ↔ 0 ≤ k ∧ k < (len : Int) := by simp [inB]

theorem gather_nil (h : AHeap) : gather h [] = some [] := rfl
theorem gather_one' {h : AHeap} {i : Nat} {o : AObj} (ho : hget h i = some o) : gather h [i] = some [o] := by simp [gather, ho]

theorem byteInts_all : ∀ {us : List Value}, us.all (isI .u8) = true → byteInts us = some (us.map vint) := by
  intro us
  induction us with
  | nil => intro _; rfl
  | cons u us ih =>
    intro h
    simp only [List.all_cons, Bool.and_eq_true] at h
    rw [isI_eq h.1]
    simp only [byteInts, ih h.2, List.map_cons, vint]

theorem olook_of_gather {h : AHeap} : ∀ {fp : List Nat} {rs : List AObj}, gather h fp = some rs → ∀ j ∈ fp, olook fp rs j = hget h j := by
  intro fp
  induction fp with
  | nil => intro rs _ j hj; cases hj
  | cons i r ih =>
    intro rs hg j hj
    simp only [gather] at hg
    split at hg
    · rename_i o os h1 h2
      cases hg
      simp only [olook]
      by_cases hij : i = j
      · subst hij; simp [h1]
      · rw [if_neg hij]
        rcases List.mem_cons.1 hj with h3 | h3
        · exact absurd h3.symm hij
        · exact ih h2 j h3
    · cases hg

theorem look_filter {h : AHeap} {fp : List Nat} {rs : List AObj} {i : Nat} {o : AObj} (ho : hget h i = some o) (hg : gather h (fp.filter (· ≠ i)) = some rs) : ∀ j ∈ fp, (if j = i then some o else olook (fp.filter (· ≠ i)) rs j) = hget h j := by
  intro j hj
  by_cases hij : j = i
  · subst hij; simp [ho]
  · rw [if_neg hij]
    exact olook_of_gather hg j (by simp [hj, hij])

theorem ovStd_ok (P : Program) (M : Mem) : OvOk P M (ovStd P M) := by
  intro K cl h ρ op act p hov hp
  unfold ovStd at hov
  split at hov
  · -- indexAddr
    rename_i t x i
    split at hov
    · rename_i e a len cp kk k hu hx hi
      split at hov
      · rename_i n hn
        cases hov
        rw [held_one_iff, inB_iff] at hp
        refine ⟨pureAct (.pointer (some (aadd a (k.toNat * n)))), ?_, uAct_same rfl rfl (gather_nil h) (gather_nil h) fun b => rfl⟩
        simp only [opAct, pv, hu, hx, hi, hn, hp, and_self, if_true]
      · cases hov
    · rename_i len e a kk k hu hx hi
      split at hov
      · rename_i n hn
        cases hov
        rw [held_one_iff, inB_iff] at hp
        refine ⟨pureAct (.pointer (some (aadd a (k.toNat * n)))), ?_, uAct_same rfl rfl (gather_nil h) (gather_nil h) fun b => rfl⟩
        simp only [opAct, pv, hu, hx, hi, hn, hp, and_self, if_true]
      · cases hov
    · cases hov
  · -- load
    rename_i t x
    split at hov
    · rename_i k b off sz hu hx
      split at hov
      · rename_i o ho
        cases hov
        rw [held_one_iff] at hp
        simp only [ldB, Bool.and_eq_true, decide_eq_true_eq] at hp
        refine ⟨loadAct P M t ⟨b, off, some sz⟩, by simp only [opAct, hx], uAct_same rfl rfl (gather_one' ho) (gather_nil h) fun _ => ?_⟩
        simp only [loadAct, oval, hp.1, if_true, aggT, hu, Option.map_some, atC_some hp.2]
      · cases hov
    · rename_i k b off hu hx
      cases hov
      rw [held_one_iff] at hp
      refine ⟨loadAct P M t ⟨b, off, none⟩, by simp only [opAct, hx], uAct_same rfl rfl (gather_nil h) (gather_nil h) fun _ => ?_⟩
      have : M b off = some (.int k (vint ((M b off).getD undef))) := by
        have e := isI_eq hp
        cases hm : M b off with
        | none => rw [roB, hm, Option.getD_none, isI_undef] at hp; cases hp
        | some v => rw [hm] at e; simp only [Option.getD_some] at e ⊢; exact congrArg some e
      simp only [loadAct, rval, aggT, hu, Option.map_some]
      rw [this]
      rfl
    · cases hov
  · -- store
    rename_i t x y
    split at hov
    · rename_i b off sz v hx hy
      split at hov
      · rename_i n o hn ho
        split at hov
        · rename_i hc
          cases hov
          rw [held_one_iff] at hp
          simp only [stB, Bool.and_eq_true, decide_eq_true_eq] at hp hc
          have hcl := Nat.eq_of_beq_eq_true hc.1
          refine ⟨_, by simp only [opAct, hx, hy, storeAct, hn, hcl, if_true]; rfl, ?_⟩
          refine uAct_same rfl rfl (gather_nil h) (gather_one' ho) fun _ => ?_
          simp only [ostores, hp.1, hcl, hp.2, hc.2, and_self, if_true]
        · cases hov
      · cases hov
    · cases hov
  · -- makeSlice
    rename_i t x y
    split at hov
    · rename_i e k1 n k2 k hu hx hy
      split at hov
      · rename_i sz z f by_ h1 h2 h3 h4
        split at hov
        · rename_i hc
          cases hov
          rw [held_one_iff] at hp
          simp only [mkB, Bool.and_eq_true, decide_eq_true_eq] at hp hc
          have hcl := Nat.eq_of_beq_eq_true hc.1
          refine ⟨newAct ⟨zcells z k.toNat, true, sz, f⟩ (slcTo n.toNat k.toNat (k.toNat * sz)), ?_, uAct_same rfl rfl (gather_nil h) (gather_nil h) fun _ => rfl⟩
          simp only [opAct, hx, hy, makeAct, hu, h1, h2, h3, h4, hp.1.1.1, hp.1.1.2, hp.1.2, hp.2, hcl, hc.2, and_self, if_true]
        · cases hov
      · cases hov
    · cases hov
  · -- slice
    rename_i t x lo hi
    split at hov
    · rename_i e b off sz len cap l u hu hx hl hh
      split at hov
      · rename_i k o hk ho
        split at hov
        · rename_i hc
          cases hov
          rw [held_one_iff, decide_eq_true_eq] at hp
          refine ⟨slcSlc k ⟨b, off, some sz⟩ (uLow l, uHigh len u, cap), ?_, uAct_same rfl rfl (gather_one' ho) (gather_nil h) fun _ => ?_⟩
          · simp only [opAct, hx, hl, hh, sliceAct, hu, hk]
            simp only [show pv.optv ρ none = some none from rfl, hp]
          · have : o.grow = true → o.esz = k := fun hg => by
              simp only [hg, Bool.not_true, Bool.false_or] at hc
              exact Nat.eq_of_beq_eq_true hc
            simp only [slcSlc]
            rw [if_pos this]
        · cases hov
      · cases hov
    · rename_i e b off len cap l u hu hx hl hh
      split at hov
      · rename_i k hk
        cases hov
        rw [held_one_iff, decide_eq_true_eq] at hp
        refine ⟨slcSlc k ⟨b, off, none⟩ (uLow l, uHigh len u, cap), ?_, uAct_same rfl rfl (gather_nil h) (gather_nil h) fun _ => rfl⟩
        simp only [opAct, hx, hl, hh, sliceAct, hu, hk]
        simp only [show pv.optv ρ none = some none from rfl, hp]
      · cases hov
    · cases hov
  · -- append
    rename_i x y t1 t2
    split at hov
    · rename_i e d2 i off sz len cap v hu1 hu2 hx hy
      split at hov
      · rename_i k by_ fl z n o hk hby hfl hz hn ho
        split at hov
        · rename_i us fs c hsrc
          split at hov
          · rename_i hc
            split at hov
            · rename_i rs hrs
              cases hov
              rw [held_one_iff] at hp
              simp only [Bool.and_eq_true, decide_eq_true_eq] at hp hc
              obtain ⟨p1, p2, p3, p4, p5, p6, p7, p8⟩ := hp
              obtain ⟨⟨⟨⟨⟨c1, c2⟩, c3⟩, c4⟩, c5⟩, c6⟩ := hc
              have p1 := Nat.eq_of_beq_eq_true p1
              have p2 := Nat.eq_of_beq_eq_true p2
              have c2 : 0 < k := by simpa [Nat.blt_eq] using c2
              have c3 : 0 < by_ := by simpa [Nat.blt_eq] using c3
              have c4 := Nat.eq_of_beq_eq_true c4
              have hs := uSrc_eq hsrc p8 (look := fun j => if j = i then some o else olook ((srcFp v).filter (· ≠ i)) rs j) (look_filter ho hrs)
              by_cases hle : len + n ≤ cap
              · have hn0 : n = 0 := by omega
                refine ⟨_, by simp only [opAct, hx, hy, appendAct, hu1, hu2, hk, hby, hfl, hz, hn, c1, c2, c3, c4, c5, and_self, if_true, hle]; rfl, ?_⟩
                refine uAct_same rfl rfl hrs (gather_one' ho) fun _ => ?_
                have hus : us.length = n * k := by
                  have hss := hsrc
                  unfold uSrc at hss
                  subst hn0
                  simp only [Nat.zero_mul, List.take_zero, List.range_zero, List.map_nil] at hss ⊢
                  split at hss
                  · cases hss; rfl
                  · split at hss
                    · cases hss; rfl
                    · cases hss
                  · cases hss; rfl
                  · cases hss; simp [strCells]
                  · cases hss
                have hus0 : us = [] := by subst hn0; simpa using hus
                have hbnd : off + (len + n) * k ≤ sz := by subst hn0; rw [p1, p4]; simp
                simp only [hs]
                rw [if_pos ⟨p7, p5, hbnd⟩]
                have htk : o.cells.take (len * k) = o.cells := List.take_of_length_le (by omega)
                subst hus0 hn0 p1
                simp only [wr, List.append_nil, htk, Nat.add_zero, p3, p4]
              · refine ⟨_, by simp only [opAct, hx, hy, appendAct, hu1, hu2, hk, hby, hfl, hz, hn, c1, c2, c3, c4, c5, and_self, if_true, hle, if_false, p6]; rfl, ?_⟩
                refine uAct_same rfl rfl hrs (gather_one' ho) fun _ => ?_
                have hbnd : off + len * k ≤ sz := by rw [p1, p4]; simp
                have hn1 : 0 < n := by omega
                have hlt : sz < (len + n) * k := by rw [p4, Nat.add_mul]; have := Nat.mul_pos hn1 c2; omega
                simp only [hs]
                rw [if_pos ⟨p7, p5, hbnd⟩, if_pos c6, if_pos ⟨p1, p2, hlt⟩]
            · cases hov
          · cases hov
        · cases hov
      · cases hov
    · cases hov
  · -- copy
    rename_i x y t1 t2
    split at hov
    · rename_i e i off sz dl cp v hu hx hy
      split at hov
      · rename_i k ns o hk hns ho
        split at hov
        · rename_i us fs c hsrc
          split at hov
          · rename_i rs hrs
            cases hov
            rw [held_one_iff] at hp
            simp only [Bool.and_eq_true, decide_eq_true_eq] at hp
            obtain ⟨p1, p2, p3, p4⟩ := hp
            have hs := uSrc_eq hsrc p4 (look := fun j => if j = i then some o else olook ((srcFp v).filter (· ≠ i)) rs j) (look_filter ho hrs)
            refine ⟨_, by simp only [opAct, hx, hy, copyAct, hu, hk, hns]; rfl, ?_⟩
            refine uAct_same rfl rfl hrs (gather_one' ho) fun _ => ?_
            simp only [hs]
            rw [if_pos ⟨p3, p1, p2⟩]
          · cases hov
        · cases hov
      · cases hov
    · cases hov
  · -- convert
    rename_i s d x
    split at hov
    · rename_i e a n cp hs hd hx
      split at hov
      · rename_i us fs c rs he hsrc hrs
        cases hov
        rw [held_one_iff, Bool.and_eq_true] at hp
        have h1 := uSrc_eq hsrc hp.2 (look := olook (srcFp (.slice (some a) n cp)) rs) (olook_of_gather hrs)
        refine ⟨_, by simp only [opAct, hx, strAct, hs, hd, he, srcN]; rfl, ?_⟩
        refine uAct_same rfl rfl hrs (gather_nil h) fun _ => ?_
        simp only [h1, byteInts_all hp.1]
      · cases hov
    · cases hov
  · cases hov

end Go.Ab

namespace Go.Ab

def posN (t : Nat) : List Nat → Nat → Option Nat
  | [], _ => none
  | x :: r, k => if Nat.beq x t then some k else posN t r (k + 1)

/-- N numbered values: those named, and all others whatever they are. -/
def mkT (N : Nat) (live : List Nat) (vals : List Value) (z : Nat → Value) : List Value :=
  (List.range N).map fun t => match posN t live 0 with
    | some k => vals.getD k undef
    | none => z t

def lookT (ts : List Value) (live : List Nat) : List Value := live.map fun t => ts.getD t undef

theorem posN_get : ∀ {live : List Nat} {t k j : Nat}, posN t live k = some j → k ≤ j ∧ live[j - k]? = some t := by
  intro live
  induction live with
  | nil => intro t k j h; cases h
  | cons x r ih =>
    intro t k j h
    simp only [posN] at h
    split at h
    · rename_i hx
      cases h
      exact ⟨Nat.le_refl _, by simp [Nat.eq_of_beq_eq_true hx]⟩
    · obtain ⟨h1, h2⟩ := ih h
      refine ⟨by omega, ?_⟩
      rw [show j - k = (j - (k + 1)) + 1 by omega]
      simpa using h2

theorem mkT_look {ts : List Value} {N : Nat} (hN : ts.length = N) (live : List Nat) : ts = mkT N live (lookT ts live) (fun t => ts.getD t undef) := by
  apply List.ext_getElem (by simp [mkT, hN])
  intro i h1 h2
  simp only [mkT, List.getElem_map, List.getElem_range]
  cases hp : posN i live 0 with
  | none => simp [List.getD_eq_getElem?_getD, h1]
  | some k =>
    obtain ⟨_, h3⟩ := posN_get hp
    simp only [Nat.sub_zero] at h3
    simp only [lookT, List.getD_eq_getElem?_getD, List.getElem?_map, h3, Option.map_some, Option.getD_some]
    rw [List.getElem?_eq_getElem h1]
    rfl

/-- What is left in the values named, in the memory, and how many values there are. -/
def viewU (live : List Nat) (r : Option (AExit × ASt × List Bool × Pins)) : Option (AExit × List Value × AHeap × Nat × Pins) :=
  match r with
  | some (e, s, _, p) => some (e, lookT s.tmps live, s.heap, s.tmps.length, p)
  | none => none

section
variable {P : Program} {M : Mem} {ov : Ov} {uns : List Nat} {lp : Hooks} {l : List Sum} {sym : List Nat}

theorem big_view (hov : OvOk P M ov) (hl : ∀ s ∈ l, s.SoundC P M) (hmix : P.follows .mixedOrders = true) {fuel : Nat} {c : Code} {s : ASt} {orc : List Bool} (hlp : HooksOk P M lp c) {live : List Nat} {e : AExit} {V : List Value} {H : AHeap} {N : Nat} {p : Pins}
    (h : viewU live (evU P M ov uns lp l sym fuel c s orc) = some (e, V, H, N, p)) (hp : Held p) : ∃ z, Big P M c s e ⟨mkT N live V z, H⟩ := by
  cases hev : evU P M ov uns lp l sym fuel c s orc with
  | none => rw [hev] at h; cases h
  | some x =>
    obtain ⟨e1, s1, o1, p1⟩ := x
    rw [hev] at h
    simp only [viewU, Option.some.injEq, Prod.mk.injEq] at h
    obtain ⟨rfl, rfl, rfl, rfl, rfl⟩ := h
    refine ⟨fun t => s1.tmps.getD t undef, ?_⟩
    rw [← mkT_look rfl live]
    exact (evU_big hov hl hmix fuel c hlp hev hp).1
end

theorem loop_big {P : Program} {M : Mem} {c : Code} {N : Nat} {live live' : List Nat} {V : Nat → List Value} {H : Nat → AHeap} {n : Nat} {e : AExit} {V' : List Value} {H' : AHeap} (he : e ≠ .normal)
    (step : ∀ i, i < n → ∀ z, ∃ z', Big P M c ⟨mkT N live (V i) z, H i⟩ .normal ⟨mkT N live (V (i + 1)) z', H (i + 1)⟩)
    (last : ∀ z, ∃ z', Big P M c ⟨mkT N live (V n) z, H n⟩ e ⟨mkT N live' V' z', H'⟩) (z : Nat → Value) : ∃ z', Big P M (.loop c) ⟨mkT N live (V 0) z, H 0⟩ e ⟨mkT N live' V' z', H'⟩ := by
  classical
  let zs : Nat → Nat → Value := fun i => Nat.rec z (fun i zi => if h : i < n then Classical.choose (step i h zi) else zi) i
  obtain ⟨z', hz⟩ := last (zs n)
  refine ⟨z', Big.loop he (fun i => ⟨mkT N live (V i) (zs i), H i⟩) n (fun i hi => ?_) hz⟩
  have : zs (i + 1) = Classical.choose (step i hi (zs i)) := dif_pos hi
  rw [this]
  exact Classical.choose_spec (step i hi (zs i))

/-- Behind a block that is left by its own exit. -/
def outOf (id : Nat) (e : AExit) : AExit := match e with
  | .exit i => if i = id then .normal else .exit i
  | e => e

noncomputable def mkHook (P : Program) (M : Mem) (id : Nat) (c : Code) (N : Nat) (live : List Nat) (f : List Value → AHeap → Option (AExit × List Value × AHeap × Pins)) (live0 : List Nat) : ASt → Option (AExit × ASt × Pins) := fun s =>
  if Nat.beq s.tmps.length N then match f (lookT s.tmps live0) s.heap with
    | some (e, V, H, p) => some (e, ⟨mkT N live V (@Classical.epsilon (Nat → Value) ⟨fun _ => undef⟩ fun z => Big P M (.block id c) s e ⟨mkT N live V z, H⟩), H⟩, p)
    | none => none
  else none

theorem mkHook_ok {P : Program} {M : Mem} {id : Nat} {c : Code} {N : Nat} {live live0 : List Nat} {f : List Value → AHeap → Option (AExit × List Value × AHeap × Pins)}
    (h : ∀ vs H0 e V H p z, f vs H0 = some (e, V, H, p) → Held p → ∃ z', Big P M (.block id c) ⟨mkT N live0 vs z, H0⟩ e ⟨mkT N live V z', H⟩) :
    ∀ s e s' p, mkHook P M id c N live f live0 s = some (e, s', p) → Held p → Big P M (.block id c) s e s' := by
  intro s e s' p hs hp
  unfold mkHook at hs
  split at hs
  · rename_i hN
    cases hf : f (lookT s.tmps live0) s.heap with
    | none => rw [hf] at hs; cases hs
    | some x =>
      obtain ⟨e1, V, H, p1⟩ := x
      rw [hf] at hs
      cases hs
      obtain ⟨z', hz⟩ := h _ _ _ _ _ _ (fun t => s.tmps.getD t undef) hf hp
      rw [← mkT_look (Nat.eq_of_beq_eq_true hN) live0] at hz
      exact Classical.epsilon_spec (p := fun z => Big P M (.block id c) s e ⟨mkT N live V z, H⟩) ⟨z', hz⟩
  · cases hs

theorem block_big {P : Program} {M : Mem} {id : Nat} {c : Code} {s s' : ASt} {e : AExit} (h : Big P M c s e s') : Big P M (.block id c) s (outOf id e) s' := by
  cases e <;> exact Big.block h

/-- The rounds' number. -/
def ctr : Nat → Int
  | 0 => 0
  | i + 1 => IntKind.wrap .i64 (ctr i + 1)

theorem ctr_eq : ∀ {i : Nat}, i ≤ 9223372036854775807 → ctr i = i := by
  intro i
  induction i with
  | zero => intro _; rfl
  | succ i ih =>
    intro h
    rw [ctr, ih (by omega), wrap_i64 (by omega) (by omega)]
    omega

/-- The body of the loop that is the first block with this number. -/
def loopOf (id : Nat) (c : Code) : Code :=
  match occ id c with
  | [.loop b] => b
  | _ => .skip

theorem hooks_one {P : Program} {M : Mem} {id : Nat} {body b : Code} {f : ASt → Option (AExit × ASt × Pins)} (ho : occ id body = [.loop b]) (h : ∀ s e s' p, f s = some (e, s', p) → Held p → Big P M (.block id (.loop b)) s e s') : HooksOk P M [(id, f)] body := by
  refine hooksOk_occ body fun id' g hg c' hc => ?_
  simp only [findH] at hg
  split at hg
  · rename_i hi
    cases hg
    have := Nat.eq_of_beq_eq_true hi
    subst this
    rw [ho] at hc
    simp at hc
    subst hc
    exact h
  · cases hg

end Go.Ab

namespace Go.Ab

def cut (o : AObj) (f n : Nat) : List Value := (o.cells.drop f).take n

/-- A slice of bytes lies right in this object. -/
def sliceB (o : AObj) (s f n : Nat) : Bool := decide (o.cells.length = s) && (decide (f + n ≤ s) && (decide (n ≤ 4611686018427387904) && (cut o f n).all (isI .u8)))

theorem sliceB_iff {o : AObj} {s f n : Nat} : sliceB o s f n = true ↔ o.cells.length = s ∧ f + n ≤ s ∧ n ≤ 4611686018427387904 ∧ (cut o f n).all (isI .u8) = true := by simp [sliceB]

theorem cut_length {o : AObj} {f n : Nat} (h : f + n ≤ o.cells.length) : (cut o f n).length = n := by simp [cut]; omega

theorem atC_cut {o : AObj} {f n i : Nat} (hi : i < n) : atC (cut o f n) i = atC o.cells (f + i) := by
  simp [atC, cut, List.getElem?_take, hi]

theorem all_at {k : IntKind} {l : List Value} (h : l.all (isI k) = true) {i : Nat} (hi : i < l.length) : isI k (atC l i) = true := by
  have : atC l i = l[i] := by simp [atC, hi]
  rw [this]
  exact List.all_eq_true.1 h _ (List.getElem_mem hi)

theorem at_all {k : IntKind} {l : List Value} (h : ∀ i, i < l.length → isI k (atC l i) = true) : l.all (isI k) = true := by
  rw [List.all_eq_true]
  intro v hv
  obtain ⟨i, hi, rfl⟩ := List.getElem_of_mem hv
  have := h i hi
  simpa [atC, hi] using this

theorem sliceB_at {o : AObj} {s f n : Nat} (h : sliceB o s f n = true) {i : Nat} (hi : i < n) : ldB .u8 o s (f + i) = true := by
  obtain ⟨h1, h2, _, h4⟩ := sliceB_iff.1 h
  have := all_at h4 (i := i) (by rw [cut_length (by omega)]; exact hi)
  rw [atC_cut hi] at this
  simp [ldB, h1, this]

theorem eqB_iff {k : IntKind} : ∀ {a b : List Value}, a.all (isI k) = true → b.all (isI k) = true → a.length = b.length → (eqB a b = true ↔ ∀ i, i < a.length → vint (atC a i) = vint (atC b i)) := by
  intro a
  induction a with
  | nil => intro b _ _ h; cases b with
    | nil => simp [eqB]
    | cons => simp at h
  | cons x a ih => intro b h1 h2 h; cases b with
    | nil => simp at h
    | cons y b =>
      simp only [List.all_cons, Bool.and_eq_true] at h1 h2
      rw [isI_eq h1.1, isI_eq h2.1]
      simp only [eqB, Bool.and_eq_true, decide_eq_true_eq, List.length_cons]
      rw [ih h1.2 h2.2 (by simpa using h)]
      constructor
      · rintro ⟨h3, h4⟩ i hi
        cases i with
        | zero => simpa [atC, vint] using h3
        | succ i => have := h4 i (by omega); simpa [atC] using this
      · intro h3
        refine ⟨by have := h3 0 (by omega); simpa [atC, vint] using this, fun i hi => ?_⟩
        have := h3 (i + 1) (by omega)
        simpa [atC] using this

theorem first_diff {x y : Nat → Int} : ∀ {n : Nat}, (¬ ∀ i, i < n → x i = y i) → ∃ m, m < n ∧ (∀ i, i < m → x i = y i) ∧ x m ≠ y m := by
  intro n
  induction n with
  | zero => intro h; exact absurd (fun i hi => by omega) h
  | succ n ih =>
    intro h
    by_cases h1 : ∀ i, i < n → x i = y i
    · refine ⟨n, by omega, h1, fun h2 => h fun i hi => ?_⟩
      rcases Nat.lt_succ_iff_lt_or_eq.1 hi with h3 | h3
      · exact h1 i h3
      · rw [h3]; exact h2
    · obtain ⟨m, h2, h3, h4⟩ := ih h1
      exact ⟨m, by omega, h3, h4⟩

theorem ctr_lt {i n : Nat} (h : i < n) (hn : n ≤ 4611686018427387904) : ctr i < (n : Int) := by rw [ctr_eq (by omega)]; omega
theorem ctr_nat {i : Nat} (h : i ≤ 4611686018427387904) : (ctr i).toNat = i := by rw [ctr_eq (by omega)]; simp
theorem inB_ctr {i n : Nat} (h : i < n) (hn : n ≤ 4611686018427387904) : inB (ctr i) n = true := by rw [inB_iff, ctr_eq (by omega)]; omega

/-- A number counted on. -/
def cnt64 (k : Int) : Nat → Int
  | 0 => k
  | i + 1 => IntKind.wrap .i64 (cnt64 k i + 1)

/-- Bytes counted up, laid one behind the other. -/
def markC (cs : List Value) (f : Nat) (k : Int) : Nat → List Value
  | 0 => cs
  | i + 1 => wr (markC cs f k i) (f + (ctr i).toNat * 1) [.int .u8 (IntKind.wrap .u8 (cnt64 k i))]

theorem atC_wr {l : List Value} {i j : Nat} {v : Value} (hi : i < l.length) : atC (wr l i [v]) j = if j = i then v else atC l j := by
  simp only [wr, atC, List.getElem?_set]
  by_cases h : i = j
  · subst h; simp [hi]
  · rw [if_neg h, if_neg (fun e => h e.symm)]

theorem markC_length {cs : List Value} {f : Nat} {k : Int} : ∀ i, (markC cs f k i).length = cs.length := by
  intro i
  induction i with
  | zero => rfl
  | succ i ih => rw [markC, wr_length, ih]

theorem markC_at {cs : List Value} {f : Nat} {k : Int} : ∀ {i : Nat}, f + i ≤ cs.length → i ≤ 4611686018427387904 → ∀ j, atC (markC cs f k i) j = if f ≤ j ∧ j < f + i then .int .u8 (IntKind.wrap .u8 (cnt64 k (j - f))) else atC cs j := by
  intro i
  induction i with
  | zero => intro _ _ j; rw [markC, if_neg (by omega)]
  | succ i ih =>
    intro h h2 j
    rw [markC, ctr_nat (by omega), Nat.mul_one, atC_wr (by rw [markC_length]; omega), ih (by omega) (by omega)]
    by_cases hj : j = f + i
    · subst hj
      rw [if_pos rfl, if_pos (by omega)]
      simp
    · rw [if_neg hj]
      by_cases h3 : f ≤ j ∧ j < f + i
      · rw [if_pos h3, if_pos (by omega)]
      · rw [if_neg h3, if_neg (by omega)]

/-- These bytes count up from k. -/
def heldC (o : AObj) (f n : Nat) (k : Int) : Bool := (List.range n).all fun i => decide (vint (atC o.cells (f + i)) = IntKind.wrap .u8 (cnt64 k i))

theorem heldC_at {o : AObj} {f n : Nat} {k : Int} (h : heldC o f n k = true) {i : Nat} (hi : i < n) : vint (atC o.cells (f + i)) = IntKind.wrap .u8 (cnt64 k i) := by
  have := List.all_eq_true.1 h i (List.mem_range.2 hi)
  simpa using this

theorem held_mark {o : AObj} {f n : Nat} {k : Int} (h : f + n ≤ o.cells.length) (hn : n ≤ 4611686018427387904) : heldC { o with cells := markC o.cells f k n } f n k = true := by
  unfold heldC
  rw [List.all_eq_true]
  intro i hi
  have hi := List.mem_range.1 hi
  simp only [decide_eq_true_eq]
  rw [markC_at h hn, if_pos (by omega)]
  simp [vint]

theorem sliceB_mark {o : AObj} {s f n : Nat} {k : Int} (h : sliceB o s f n = true) : sliceB { o with cells := markC o.cells f k n } s f n = true := by
  obtain ⟨h1, h2, h3, h4⟩ := sliceB_iff.1 h
  refine sliceB_iff.2 ⟨by simp only; rw [markC_length]; exact h1, h2, h3, at_all fun i hi => ?_⟩
  have hl : (cut { o with cells := markC o.cells f k n } f n).length = n := cut_length (by simp only; rw [markC_length]; omega)
  rw [hl] at hi
  rw [atC_cut hi]
  simp only
  rw [markC_at (by omega) h3, if_pos (by omega)]
  simp [isI]

end Go.Ab

namespace Go.Ab

/-- In this read-only memory n bytes lie from here on. -/
def RoBytes (M : Mem) (b off n : Nat) (x : Nat → Int) : Prop := (∀ i, IntKind.u8.has (x i)) ∧ ∀ i, i < n → M b (off + i) = some (.int .u8 (x i))

theorem slice_arg {H : Type} {enc : TypeId × Value → H} {P : Program} {W : World} {base : Nat} {t e : TypeId} {v : Value} {d : DataW H} {ps : List MemPlace} (ht : P.underlying t = some (.slice e)) (he : P.underlying e = some (.int .u8)) (hc : P.cellsOf e = 1)
    (hval : Value.okWide P W .any base t v) (hd : DataW.Trod enc P W 0 (fun _ => true) true t v d ps) :
    v = .slice none 0 0 ∨ ∃ b off len cap x, v = .slice (some ⟨b, off, none⟩) len cap ∧ len ≤ cap ∧ cap ≤ 9223372036854775807 ∧ RoBytes (memOf W) b off len x := by
  obtain ⟨fuel, hd⟩ := hd
  have hcell : Cell.okWide P W .any base t v := by
    unfold Value.okWide at hval
    rw [ht] at hval
    exact hval
  have hv : (v = .slice none 0 0) ∨ ∃ a len cap, v = .slice (some a) len cap ∧ a.spot = none ∧ len ≤ cap ∧ (cap : Int) ≤ 9223372036854775807 := by
    simp only [Cell.okWide, ht, Cell.ok] at hcell
    cases v <;> try simp only [ht] at hcell
    case slice o n c =>
      cases o with
      | none =>
        left
        cases n with
        | zero => cases c with
          | zero => rfl
          | succ c => exact absurd hcell id
        | succ n => exact absurd hcell id
      | some a => right; exact ⟨a, n, c, rfl, hcell.2.2.2.1, hcell.1, hcell.2.1⟩
    all_goals exact absurd hcell id
  rcases hv with rfl | ⟨a, len, cap, rfl, hspot, hlc, hcap⟩
  · exact .inl rfl
  right
  rcases ChangeShapes.open_ints ht he hc hd with ⟨h, _⟩ | ⟨a', len', cap', zs, h, _, hl, hm, hlen, _, hcells, hwf⟩
  · simp [Value.cells] at h
  · simp only [Value.cells, List.cons.injEq, Value.slice.injEq, Option.some.injEq, and_true] at h
    obtain ⟨rfl, rfl, rfl⟩ := h
    obtain ⟨b, off, spot⟩ := a
    simp only at hspot
    subst hspot
    simp only [if_true] at hlen
    refine ⟨b, off, len, cap, fun i => zs.getD i 0, rfl, hlc, by omega, fun i => ?_, fun i hi => ?_⟩
    · show IntKind.u8.has (zs.getD i 0)
      rw [List.getD_eq_getElem?_getD]
      by_cases hi : i < zs.length
      · rw [List.getElem?_eq_getElem hi]
        have := hwf _ (List.getElem_mem hi)
        simp only [Lit.wf, Bool.and_eq_true, decide_eq_true_eq] at this
        exact this
      · rw [List.getElem?_eq_none (by omega)]; exact ⟨by decide, by decide⟩
    · have h1 := hcells i (by omega)
      rw [add_lit] at h1
      simp only [memOf, h1]
      rfl

theorem RoBytes.roB {M : Mem} {b off n : Nat} {x : Nat → Int} (h : RoBytes M b off n x) {i : Nat} (hi : i < n) : roB .u8 M b (off + i) = true ∧ vint ((M b (off + i)).getD undef) = x i := by
  rw [Ab.roB, h.2 i hi]
  exact ⟨by simp [isI], rfl⟩

end Go.Ab

namespace Go.Ab

/-- The byte that a draw reads, and one, or 0. -/
def nC (M : Mem) (u : Option Addr) (n : Nat) (i : Int) : Int :=
  match u with
  | some a => if i < n then IntKind.wrap .u64 (IntKind.wrap .u64 (vint ((M a.block (a.off + i.toNat * 1)).getD undef)) + 1) else 0
  | none => 0
/-- How far the source has been read. -/
def nI (n : Nat) (i : Int) : Int := if i < n then IntKind.wrap .i64 (i + 1) else i
/-- The source's number behind a draw. -/
def nX (x c : Int) : Int := IntKind.wrap .u64 (IntKind.wrap .u64 (IntKind.wrap .u64 (x + c) * 6364136223846793005) + 1442695040888963407)
/-- What is drawn. -/
def nR (x k : Int) : Int := IntKind.wrap .i64 ((x.fdiv (2 ^ 33)).tmod (IntKind.wrap .u64 k))

theorem nX_has (x c : Int) : 0 ≤ nX x c ∧ nX x c < 18446744073709551616 := by
  unfold nX
  rw [wrap_u64 (_ + 1442695040888963407)]
  omega

theorem nR_range {x k : Int} (hx : 0 ≤ x) (h1 : 1 < k) (h2 : k ≤ 4611686018427387904) : 0 ≤ nR x k ∧ nR x k < k := by
  unfold nR
  have hw : IntKind.wrap .u64 k = k := by rw [wrap_u64]; omega
  rw [hw, Int.fdiv_eq_ediv_of_nonneg _ (show (0 : Int) ≤ 2 ^ 33 by decide)]
  have hq : 0 ≤ x / 2 ^ 33 := Int.ediv_nonneg hx (by decide)
  rw [Int.tmod_eq_emod_of_nonneg hq]
  have h3 := Int.emod_nonneg (x / 2 ^ 33) (show k ≠ 0 by omega)
  have h4 := Int.emod_lt_of_pos (x / 2 ^ 33) (show 0 < k by omega)
  rw [wrap_i64 (by omega) (by omega)]
  exact ⟨h3, h4⟩

/-- The source's slice can be read. -/
def nOk (M : Mem) (u : Option Addr) (n : Nat) : Bool :=
  match u with
  | some a => a.spot.isNone && (List.range n).all fun j => roB .u8 M a.block (a.off + j)
  | none => Nat.beq n 0

theorem nOk_ro {M : Mem} {b off n : Nat} {x : Nat → Int} (h : RoBytes M b off n x) : nOk M (some ⟨b, off, none⟩) n = true := by
  simp only [nOk, Option.isNone_none, Bool.true_and, List.all_eq_true]
  intro j hj
  exact (h.roB (List.mem_range.1 hj)).1

theorem nOk_at {M : Mem} {b off n : Nat} (h : nOk M (some ⟨b, off, none⟩) n = true) {i : Int} (h0 : 0 ≤ i) (hi : i < n) : roB .u8 M b (off + i.toNat) = true := by
  simp only [nOk, Option.isNone_none, Bool.true_and, List.all_eq_true] at h
  exact h i.toNat (List.mem_range.2 (by omega))

end Go.Ab

namespace Go.Ab
open Go.ChangeShapes Go.RowKit

/-- The variables' types can be read. -/
def okVars (P : Program) (ns : List String) : Bool := ns.all fun n => match P.globalNamed n with
  | some g => match P.globals[g]? with
    | some gl => P.readableRec gl.type && Nat.blt gl.type P.types.size
    | none => true
  | none => true

/-- The variables read as they did where the old memory is as it was. -/
theorem trodVars_carry {H : Type} {enc : TypeId × Value → H} {P : Program} {W W' : World} (hl : laidOutB P = true) (hb : Below W.heap.size W W') : ∀ (ns : List String) (gs : List (DataW H)) (ps : List MemPlace),
    okVars P ns = true → DataW.TrodVars enc P W (fun _ => true) ns gs ps → DataW.TrodVars enc P W' (fun b => decide (b < W.heap.size)) ns gs ps := by
  intro ns
  induction ns with
  | nil => intro gs ps _ h; cases gs with
    | nil => exact h
    | cons g gs => exact absurd h (by simp [DataW.TrodVars])
  | cons n ns ih => intro gs ps hv h; cases gs with
    | nil => exact absurd h (by simp [DataW.TrodVars])
    | cons d gs =>
      have hlt := h.lt
      obtain ⟨g, t, cs, fuel, p, q, h1, h2, h3, h4, h5, rfl⟩ := h
      simp only [okVars, List.all_cons, Bool.and_eq_true] at hv
      have ht : P.readableRec t = true ∧ t < P.types.size := by
        have := hv.1
        rw [h1] at this
        cases hg : P.globals[g]? with
        | none => rw [hg] at h2; cases h2
        | some gl =>
          rw [hg] at h2
          simp only [Option.map_some, Option.some.injEq] at h2
          subst h2
          simp only [hg, Bool.and_eq_true] at this
          exact ⟨this.1, of_eq_true ((Nat.blt_eq (x := gl.type) (y := P.types.size)) ▸ eq_true this.2)⟩
      have hgs : g < W.heap.size := by
        unfold World.var? at h3
        rw [h1] at h3
        simp only [Option.bind_some] at h3
        cases hh : W.heap[g]? with
        | none => rw [hh] at h3; cases h3
        | some o => exact (Array.getElem?_eq_some_iff.1 hh).1
      have h3' : W'.var? P n = some cs := by
        unfold World.var? at h3 ⊢
        rw [h1] at h3 ⊢
        simp only [Option.bind_some] at h3 ⊢
        rw [hb.block g hgs]
        exact h3
      have hp : ∀ x ∈ p, x.block < W.heap.size := fun x hx => hlt x (by simp [hx])
      obtain ⟨fuel', h4'⟩ := Below.trod (v := .agg cs) hl ht.1 ht.2 ⟨fuel, h4⟩ hb hp
      exact ⟨g, t, cs, fuel', p, q, h1, h2, h3', h4', ih gs q hv.2 h5, rfl⟩

def RoOk (M : Mem) (w : World) : Prop := ∀ b off v, M b off = some v → w.cell? ⟨b, off, none⟩ = some v ∧ ground v = true ∧ v.oneCell' = true

theorem hrel_ro {M : Mem} {w : World} (h : RoOk M w) (m : Pl) : HRel M m [] w :=
  ⟨fun i j oi oj hi => by simp [hget_nil] at hi, fun i o hi => by simp [hget_nil] at hi, fun b off v hv =>
    let ⟨h1, h2, h3⟩ := h b off v hv; ⟨h1, h2, h3, fun i o hi => by simp [hget_nil] at hi⟩⟩

theorem ro_memOf (w : World) : RoOk (memOf w) w := fun b off v hv => by
  unfold memOf at hv
  split at hv
  · rename_i u hu
    split at hv
    · rename_i hc
      cases hv
      simp only [Bool.and_eq_true] at hc
      exact ⟨hu, hc.1, hc.2⟩
    · cases hv
  · cases hv

/-- A table of cells, and else what the world holds. -/
def memL (tbl : Nat → Nat → Option Value) (w : World) : Mem := fun b off => match tbl b off with
  | some v => some v
  | none => memOf w b off

theorem ro_memL {tbl : Nat → Nat → Option Value} {w : World} (h : RoOk tbl w) : RoOk (memL tbl w) w := fun b off v hv => by
  unfold memL at hv
  cases ht : tbl b off with
  | some u => rw [ht] at hv; cases hv; exact h b off v ht
  | none => rw [ht] at hv; exact ro_memOf w b off v hv

theorem memL_memOf {tbl : Nat → Nat → Option Value} {w : World} (h : RoOk tbl w) {b off : Nat} {v : Value} (hv : memOf w b off = some v) : memL tbl w b off = some v := by
  unfold memL
  cases ht : tbl b off with
  | none => exact hv
  | some u =>
    have h1 := (h b off u ht).1
    have h2 := (ro_memOf w b off v hv).1
    rw [h1] at h2
    exact h2

theorem calls_lawM {P : Program} {M : Mem} {f : FuncId} {w : World} {args : Array Value} {ns : List AObj} {b : Bool} (hM : RoOk M w) (h : ACalls P M f args.toList [] (.bool b) [] ns) (hg : groundL args.toList = true) :
    Calls P f args w fun e w' => e = .returned (.bool b) ∧ Below w.heap.size w w' := by
  refine (h.2 (fun _ => (0, 0)) w args (hrel_ro hM _) (LRel.same hg)).mono fun e w' ⟨v', m', he, htr, hv⟩ => ?_
  rw [hv.bool] at he
  exact ⟨he, below_of_tr htr⟩

theorem liftedL {C : Checked} {f : FuncId} {fn : Func} {tb : TypeId} (own : ownKnob C.prog.godebug = none) (noInit : C.prog.inits.idxOf? f = none) (hfn : C.prog.funcs[f]? = some fn)
    (hres : fn.resultTypes = #[tb]) (htb : C.prog.underlying tb = some .bool) (hts : okTs C.prog fn.params.toList = true) {s : ChangeSpec} (hvs : okVars C.prog s.vars = true) {laid : List (String × DataW Unit)}
    (hs : ∀ (H : Type) (ds gs : List (DataW H)), ds.length = fn.params.size → gs.length = s.vars.length → s.fn H (ds ++ gs) = { results := [.lit (.bool true)], args := ds, vars := gs })
    (run : ∀ (W : World) (base : Nat) (H : Type) (enc : TypeId × Value → H) (args : Array Value) (ds : List (DataW H)) (ps : List MemPlace), laidMetH C.prog laid W → DataW.TrodAll enc C.prog W 0 (fun _ => true) true fn.params.toList args.toList ds ps →
      (∀ (j : Nat) t v, fn.params[j]? = some t → args[j]? = some v → Value.okWide C.prog W .any base t v) → groundL args.toList = true ∧ ∃ M ns, RoOk M W ∧ ACalls C.prog M f args.toList [] (.bool true) [] ns)
    (os : Os) (started : os.Started) {H : Type} (enc : TypeId × Value → H)
    (witness : ∃ (w : World) (tape : Tape) (i : Input), w.os = os ∧ (w.forCall tape i).Shaped C.prog ∧ i.vars = [] ∧ Input.okWide C.prog (w.forCall tape i) .any w.heap.size f i ∧
      ((s.pre enc C.prog fn [] false (w.forCall tape i).memory i.args ∧ laidMetH C.prog laid (w.forCall tape i).memory) ∧ sizedMet enc C.prog fn (OpenSpec.ofChange s) false (w.forCall tape i).memory i.args) ∧ ({} : Assume).holds C.prog (lone (Frame.enter C.prog f i.args .normal) [] (w.forCall tape i))) :
    ReturnsInHanded {} C os f .any (fun w args => (s.pre enc C.prog fn [] false w args ∧ laidMetH C.prog laid w) ∧ sizedMet enc C.prog fn (OpenSpec.ofChange s) false w args) (s.post enc C.prog fn false true false false) := by
  refine returnsInHanded_of_change_and (X := fun w _ => laidMetH C.prog laid w) (fun _ _ _ hh h => laidMetH.of_heap hh h) own started noInit hfn witness ?_
  intro W base args ds gs before hval hW hcnd _ hL _
  have hW' := hW
  obtain ⟨p, q, hA, hV, rfl, hfz, hnd⟩ := hW
  obtain ⟨hg, M, ns, hM, hrun⟩ := run W base H enc args ds p hL hA hval
  simp only [okTs, Bool.and_eq_true] at hts
  have hlen : ∀ (ts : List TypeId) (vs : List Value) (es : List (DataW H)) (ps : List MemPlace), DataW.TrodAll enc C.prog W 0 (fun _ => true) true ts vs es ps → es.length = ts.length := by
    intro ts
    induction ts with
    | nil => intro vs es ps h; cases vs <;> cases es <;> simp_all [DataW.TrodAll]
    | cons t ts ih =>
      intro vs es ps h
      obtain ⟨v, vs', d, ds', p, q, rfl, rfl, rfl, h1, h2⟩ := trodAll_cons h
      simp [ih _ _ _ h2]
  have hvlen : ∀ (nl : List String) (es : List (DataW H)) (ps : List MemPlace), DataW.TrodVars enc C.prog W (fun _ => true) nl es ps → es.length = nl.length := by
    intro nl
    induction nl with
    | nil => intro es ps h; cases es with
      | nil => rfl
      | cons e es => exact absurd h (by simp [DataW.TrodVars])
    | cons n nl ih => intro es ps h; cases es with
      | nil => exact absurd h (by simp [DataW.TrodVars])
      | cons e es =>
        obtain ⟨g, t, cs, fuel, p, q, h1, h2, h3, h4, h5, h6⟩ := h
        simp [ih _ _ h5]
  have hsf := hs H ds gs (by simpa using hlen _ _ _ _ hA) (hvlen _ _ _ hV)
  have hlt : ∀ x ∈ p ++ q, x.block < W.heap.size := fun x hx => hW'.lt x hx
  refine (calls_lawM hM hrun hg).mono fun e W' ⟨he, hb⟩ => ⟨_, he, ds, gs, p ++ q, [], p, q, hW', ?_, ?_, ?_, hb.frame _, fun h => by cases h⟩
  · rw [hres, hsf]
    exact trodAll_cons_mk (shut_bool htb _) trodAll_mk0
  · rw [hsf]
    exact trodAll_carry hts.1 hb _ _ _ _ hts.2 (fun x hx => hlt x (List.mem_append.2 (.inl hx))) hA
  · rw [hsf]
    exact trodVars_carry hts.1 hb _ _ _ hvs hV

end Go.Ab

