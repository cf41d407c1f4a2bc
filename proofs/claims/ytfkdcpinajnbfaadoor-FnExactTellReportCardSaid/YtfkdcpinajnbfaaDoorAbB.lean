/- an abstract interpreter for the model's code is sound: calls, statements, code; and how a law's statement follows.
   Conditions: none. -/
import Derived.Test.YtfkdcpinajnbfaaDoorAbA
import Derived.Laws.BytesArg
import Derived.Lib.ConvBytes
import Derived.Carry
import Derived.RowKit
import Derived.OpenShut
import Derived.Handed
set_option linter.unusedVariables false
set_option linter.unusedSimpArgs false
namespace Go.Ab

mutual
def renV (σ : Nat → Option Nat) : Value → Option Value
  | .pointer (some a) => match a.spot with
    | none => some (.pointer (some a))
    | some sz => match σ a.block with
      | some i => some (.pointer (some ⟨i, a.off, some sz⟩))
      | none => none
  | .slice (some a) n c => match a.spot with
    | none => some (.slice (some a) n c)
    | some sz => match σ a.block with
      | some i => some (.slice (some ⟨i, a.off, some sz⟩) n c)
      | none => none
  | .func fn x y => match renA σ x, renA σ y with
    | some x', some y' => some (.func fn x' y')
    | _, _ => none
  | .iface t v => match renV σ v with
    | some v' => some (.iface t v')
    | none => none
  | .agg cs => match renA σ cs with
    | some cs' => some (.agg cs')
    | none => none
  | .tuple cs => match renA σ cs with
    | some cs' => some (.tuple cs')
    | none => none
  | v => some v
def renA (σ : Nat → Option Nat) : Array Value → Option (Array Value)
  | ⟨l⟩ => match renL σ l with
    | some l' => some ⟨l'⟩
    | none => none
def renL (σ : Nat → Option Nat) : List Value → Option (List Value)
  | [] => some []
  | v :: r => match renV σ v, renL σ r with
    | some v', some r' => some (v' :: r')
    | _, _ => none
end

mutual
theorem renV_ground (σ : Nat → Option Nat) : ∀ (v : Value), ground v = true → renV σ v = some v
  | .pointer (some a), h => by simp only [ground, Option.isNone_iff_eq_none] at h; simp [renV, h]
  | .pointer none, _ => rfl
  | .slice (some a) n c, h => by simp only [ground, Option.isNone_iff_eq_none] at h; simp [renV, h]
  | .slice none _ _, _ => rfl
  | .func fn x y, h => by
    simp only [ground, Bool.and_eq_true] at h
    simp [renV, renA_ground σ x h.1, renA_ground σ y h.2]
  | .iface t v, h => by simp [renV, renV_ground σ v (by simpa [ground] using h)]
  | .agg cs, h => by simp [renV, renA_ground σ cs (by simpa [ground] using h)]
  | .tuple cs, h => by simp [renV, renA_ground σ cs (by simpa [ground] using h)]
  | .bool _, _ => rfl
  | .int _ _, _ => rfl
  | .float _ _, _ => rfl
  | .complex _ _ _, _ => rfl
  | .string _, _ => rfl
  | .map _, _ => rfl
  | .chan _, _ => rfl
  | .nilFunc, _ => rfl
  | .nilIface, _ => rfl
theorem renA_ground (σ : Nat → Option Nat) : ∀ (x : Array Value), groundA x = true → renA σ x = some x
  | ⟨l⟩, h => by simp [renA, renL_ground σ l (by simpa [groundA] using h)]
theorem renL_ground (σ : Nat → Option Nat) : ∀ (l : List Value), groundL l = true → renL σ l = some l
  | [], _ => rfl
  | v :: r, h => by
    simp only [groundL, Bool.and_eq_true] at h
    simp [renL, renV_ground σ v h.1, renL_ground σ r h.2]
end

theorem renL_get {σ : Nat → Option Nat} : ∀ {l l' : List Value}, renL σ l = some l' → l'.length = l.length ∧ ∀ (i : Nat) v', l'[i]? = some v' → ∃ v, l[i]? = some v ∧ renV σ v = some v' := by
  intro l
  induction l with
  | nil => intro l' h; cases h; exact ⟨rfl, fun i v' h => by simp at h⟩
  | cons u r ih =>
    intro l' h
    simp only [renL] at h
    split at h
    · rename_i u' r' hu hr
      cases h
      obtain ⟨h1, h2⟩ := ih hr
      refine ⟨by simp [h1], fun i v' hv => ?_⟩
      cases i with
      | zero => simp at hv; subst hv; exact ⟨u, rfl, hu⟩
      | succ i => obtain ⟨v, h3, h4⟩ := h2 i v' (by simpa using hv); exact ⟨v, by simpa using h3, h4⟩
    · cases h

theorem renA_list {σ : Nat → Option Nat} {x x' : Array Value} (h : renA σ x = some x') : renL σ x.toList = some x'.toList := by
  cases x with
  | mk l =>
    simp only [renA] at h
    split at h
    · rename_i l' hl; cases h; exact hl
    · cases h

/-- Under the numbers σ the objects of the one memory are those of the other. -/
def Emb (σ : Nat → Option Nat) (m : Pl) (h : AHeap) (m' : Pl) (h' : AHeap) : Prop :=
  ∀ i j o, σ i = some j → hget h i = some o → ∃ o', hget h' j = some o' ∧ o'.grow = o.grow ∧ o'.esz = o.esz ∧ o'.cells.length = o.cells.length ∧ m' j = m i

theorem VRel.ren {σ : Nat → Option Nat} {m m' : Pl} {h h' : AHeap} (e : Emb σ m h m' h') {u v : Value} (hr : VRel m h u v) : ∀ {u' : Value}, renV σ u = some u' → VRel m' h' u' v := by
  have arr : ∀ {x x' y : Array Value}, x.size = y.size → (∀ (i : Nat) u v, x[i]? = some u → y[i]? = some v → ∀ {u'}, renV σ u = some u' → VRel m' h' u' v) → renA σ x = some x' →
      x'.size = y.size ∧ ∀ (i : Nat) u v, x'[i]? = some u → y[i]? = some v → VRel m' h' u v := fun {x x' y} hs ih hx => by
    obtain ⟨h1, h2⟩ := renL_get (renA_list hx)
    refine ⟨by simp at h1; omega, fun i u v hu hv => ?_⟩
    obtain ⟨p, hp, hpr⟩ := h2 i u (by simpa using hu)
    exact ih i p v (by simpa using hp) hv hpr
  induction hr with
  | same hg => intro u' hu; rw [renV_ground σ _ hg] at hu; cases hu; exact .same hg
  | ptr ho hle hv =>
    intro u' hu
    simp only [renV] at hu
    split at hu
    · rename_i j hj
      cases hu
      obtain ⟨o', ho', h1, h2, h3, h4⟩ := e _ _ _ hj ho
      exact .ptr ho' (by omega) fun hs => by rw [h4]; exact hv (by omega)
    · cases hu
  | slc ho hle hc hv =>
    intro u' hu
    simp only [renV] at hu
    split at hu
    · rename_i j hj
      cases hu
      obtain ⟨o', ho', h1, h2, h3, h4⟩ := e _ _ _ hj ho
      exact .slc ho' (by omega) hc fun hs => by rw [h4, h1, h2]; exact hv (by omega)
    · cases hu
  | func hx _ hy _ ihx ihy =>
    intro u' hu
    simp only [renV] at hu
    split at hu
    · rename_i x' y' hx' hy'
      cases hu
      obtain ⟨a1, a2⟩ := arr hx ihx hx'
      obtain ⟨b1, b2⟩ := arr hy ihy hy'
      exact .func a1 a2 b1 b2
    · cases hu
  | iface _ ih =>
    intro u' hu
    simp only [renV] at hu
    split at hu
    · rename_i v' hv'; cases hu; exact .iface (ih hv')
    · cases hu
  | agg hx _ ih =>
    intro u' hu
    simp only [renV] at hu
    split at hu
    · rename_i x' hx'; cases hu; obtain ⟨a1, a2⟩ := arr hx ih hx'; exact .agg a1 a2
    · cases hu
  | tuple hx _ ih =>
    intro u' hu
    simp only [renV] at hu
    split at hu
    · rename_i x' hx'; cases hu; obtain ⟨a1, a2⟩ := arr hx ih hx'; exact .tuple a1 a2
    · cases hu

theorem LRel.ren {σ : Nat → Option Nat} {m m' : Pl} {h h' : AHeap} (e : Emb σ m h m' h') {us vs us' : List Value} (hr : LRel m h us vs) (hu : renL σ us = some us') : LRel m' h' us' vs := by
  obtain ⟨h1, h2⟩ := renL_get hu
  refine ⟨by rw [h1]; exact hr.1, fun i u v hu hv => ?_⟩
  obtain ⟨p, hp, hpr⟩ := h2 i u hu
  exact (hr.2 i p v hp hv).ren e hpr

/-- An object whose cells are renamed (plain data stays as it is). -/
def renO (σ : Nat → Option Nat) (o : AObj) : Option AObj :=
  if o.flat then some o else match renL σ o.cells with
    | some l => some { o with cells := l }
    | none => none

def renOs (σ : Nat → Option Nat) : List AObj → Option (List AObj)
  | [] => some []
  | o :: r => match renO σ o, renOs σ r with
    | some o', some r' => some (o' :: r')
    | _, _ => none

theorem renO_props {σ : Nat → Option Nat} {o o' : AObj} (h : renO σ o = some o') : o'.grow = o.grow ∧ o'.esz = o.esz ∧ o'.flat = o.flat ∧ o'.cells.length = o.cells.length := by
  unfold renO at h
  split at h
  · cases h; exact ⟨rfl, rfl, rfl, rfl⟩
  · split at h
    · rename_i l hl; cases h; exact ⟨rfl, rfl, rfl, (renL_get hl).1⟩
    · cases h

theorem renOs_get {σ : Nat → Option Nat} : ∀ {l l' : List AObj}, renOs σ l = some l' → l'.length = l.length ∧ ∀ (i : Nat) o', l'[i]? = some o' → ∃ o, l[i]? = some o ∧ renO σ o = some o' := by
  intro l
  induction l with
  | nil => intro l' h; cases h; exact ⟨rfl, fun i v' h => by simp at h⟩
  | cons u r ih =>
    intro l' h
    simp only [renOs] at h
    split at h
    · rename_i u' r' hu hr
      cases h
      obtain ⟨h1, h2⟩ := ih hr
      refine ⟨by simp [h1], fun i v' hv => ?_⟩
      cases i with
      | zero => simp at hv; subst hv; exact ⟨u, rfl, hu⟩
      | succ i => obtain ⟨v, h3, h4⟩ := h2 i v' (by simpa using hv); exact ⟨v, by simpa using h3, h4⟩
    · cases h

/-- A renamed object lies where the object lay. -/
theorem ORel.ren {σ : Nat → Option Nat} {m m' : Pl} {h h' : AHeap} (e : Emb σ m h m' h') {w : World} {i j : Nat} {o o' : AObj} {cs : Array Value} {t : TypeId} {fz : Nat × Nat} (x : ORel m h w i o cs t fz) (ho : renO σ o = some o') (hm : m' j = m i) :
    ORel m' h' w j o' cs t fz := by
  have hp := renO_props ho
  refine ⟨by rw [hm]; exact x.blk, by rw [hm]; exact x.size, by rw [hp.2.2.2]; exact x.len, x.free, x.one, fun hf => ?_, fun k u v hu hv => ?_⟩
  · have hf' : o.flat = true := by rw [← hp.2.2.1]; exact hf
    simp only [renO, hf', if_true, Option.some.injEq] at ho
    subst ho
    exact x.flat hf'
  · unfold renO at ho
    split at ho
    · rename_i hf
      cases ho
      have hg := x.flat hf
      exact (x.rel k u v hu hv).ren e (renV_ground σ u (groundL_get hg hu))
    · split at ho
      · rename_i l hl
        cases ho
        obtain ⟨p, hp, hpr⟩ := (renL_get hl).2 k u hu
        exact (x.rel k p v hp hv).ren e hpr
      · cases ho

/-- The contract of a function: with these arguments, and these objects that it can reach, it gives this, leaves them so, with these new ones. -/
def ACalls (P : Program) (M : Mem) (f : FuncId) (args : List Value) (os : List AObj) (v : Value) (os' ns : List AObj) : Prop :=
  os'.length = os.length ∧ ∀ (m : Pl) (w : World) (args' : Array Value), HRel M m (os.map some) w → LRel m (os.map some) args args'.toList →
    Calls P f args' w fun e w' => ∃ v' m', e = .returned v' ∧ Tr M m (os.map some) w m' ((os' ++ ns).map some) w' ∧ VRel m' ((os' ++ ns).map some) v v'

theorem hget_map {l : List AObj} {i : Nat} : hget (l.map some) i = l[i]? := by
  unfold hget
  rw [List.getElem?_map]
  cases l[i]? <;> rfl

/-- Where a number stands in a list of numbers. -/
def idx : List Nat → Nat → Option Nat
  | [], _ => none
  | i :: r, k => if i = k then some 0 else match idx r k with
    | some j => some (j + 1)
    | none => none

theorem idx_get : ∀ {l : List Nat} {k j : Nat}, idx l k = some j → l[j]? = some k := by
  intro l
  induction l with
  | nil => intro k j h; cases h
  | cons i r ih =>
    intro k j h
    simp only [idx] at h
    split at h
    · rename_i he; cases h; simp [he]
    · split at h
      · rename_i j' hj; cases h; simpa using ih hj
      · cases h

theorem idx_none : ∀ {l : List Nat} {k : Nat}, idx l k = none → k ∉ l := by
  intro l
  induction l with
  | nil => intro k h; simp
  | cons i r ih =>
    intro k h
    simp only [idx] at h
    split at h
    · cases h
    · rename_i hne
      split at h
      · cases h
      · rename_i hn
        simp only [List.mem_cons, not_or]
        exact ⟨fun e => hne e.symm, ih hn⟩

theorem idx_of_get : ∀ {l : List Nat}, l.Nodup → ∀ {k j : Nat}, l[j]? = some k → idx l k = some j := by
  intro l
  induction l with
  | nil => intro _ k j h; simp at h
  | cons i r ih =>
    intro hd k j h
    simp only [List.nodup_cons] at hd
    cases j with
    | zero => simp at h; simp [idx, h]
    | succ j =>
      simp only [List.getElem?_cons_succ] at h
      have hne : i ≠ k := fun e => hd.1 (e ▸ List.mem_of_getElem? h)
      simp [idx, hne, ih hd.2 h]

/-- The numbers back: the callee's j is the caller's. -/
def outN (L : List Nat) (b : Nat) (j : Nat) : Option Nat := if j < L.length then L[j]? else some (b + (j - L.length))

theorem scatter_get : ∀ (L : List Nat) (os : List AObj) (h : AHeap), L.Nodup → L.length = os.length → (∀ i ∈ L, i < h.length) → (scatter h L os).length = h.length ∧
    ∀ k, hget (scatter h L os) k = match idx L k with
      | some j => os[j]?
      | none => hget h k := by
  intro L
  induction L with
  | nil => intro os h _ _ _; exact ⟨by cases os <;> rfl, fun k => by cases os <;> rfl⟩
  | cons i r ih =>
    intro os h hd hl hi
    cases os with
    | nil => simp at hl
    | cons o os =>
      simp only [List.nodup_cons] at hd
      have hih := ih os (h.set i (some o)) hd.2 (by simpa using hl) (fun k hk => by rw [List.length_set]; exact hi k (by simp [hk]))
      refine ⟨by simp only [scatter]; rw [hih.1, List.length_set], fun k => ?_⟩
      simp only [scatter]
      rw [hih.2 k]
      simp only [idx]
      by_cases hk : i = k
      · subst hk
        rw [if_pos rfl]
        cases hx : idx r i with
        | some j => exact absurd (List.mem_of_getElem? (idx_get hx)) hd.1
        | none => simp only; rw [hget_set_self (hi i (by simp))]; simp
      · rw [if_neg hk]
        cases hx : idx r k with
        | some j => simp
        | none => simp only; rw [hget_set_ne hk]

theorem place_get : ∀ (ns : List AObj) (h : AHeap) (b : Nat), Room h b ns.length → ∀ k, hget (place h b ns) k = if b ≤ k ∧ k < b + ns.length then ns[k - b]? else hget h k := by
  intro ns
  induction ns with
  | nil => intro h b _ k; rw [if_neg (by simp)]; rfl
  | cons o ns ih =>
    intro h b hr k
    simp only [List.length_cons] at hr
    have hroom : Room (hput h b o) (b + 1) ns.length := by
      refine ⟨?_, fun k hk => ?_⟩
      · have := hr.1
        unfold hput
        split
        · simp; omega
        · simp; omega
      · rw [hget_hput hr.1, if_neg (by omega), show b + 1 + k = b + (k + 1) by omega]
        exact hr.2 (k + 1) (by omega)
    simp only [place]
    rw [ih _ _ hroom k, hget_hput hr.1]
    by_cases h1 : b + 1 ≤ k ∧ k < b + 1 + ns.length
    · rw [if_pos h1, if_pos (by simp; omega), show k - b = (k - (b + 1)) + 1 by omega]; rfl
    · rw [if_neg h1]
      by_cases h2 : k = b
      · subst h2; rw [if_pos rfl, if_pos (by simp)]; simp
      · rw [if_neg h2, if_neg (by simp; omega)]

end Go.Ab

namespace Go.Ab

mutual
theorem renV_back {σ τ : Nat → Option Nat} (hb : ∀ i j, σ i = some j → τ j = some i) : ∀ (v u : Value), renV σ v = some u → renV τ u = some v
  | .pointer (some a), u, h => by
    obtain ⟨blk, off, spot⟩ := a
    simp only [renV] at h
    split at h
    · cases h; rfl
    · split at h
      · rename_i j hj; cases h; simp [renV, hb _ _ hj]
      · cases h
  | .pointer none, u, h => by cases h; rfl
  | .slice (some a) n c, u, h => by
    obtain ⟨blk, off, spot⟩ := a
    simp only [renV] at h
    split at h
    · cases h; rfl
    · split at h
      · rename_i j hj; cases h; simp [renV, hb _ _ hj]
      · cases h
  | .slice none _ _, u, h => by cases h; rfl
  | .func fn x y, u, h => by
    simp only [renV] at h
    split at h
    · rename_i x' y' hx hy; cases h; simp [renV, renA_back hb x _ hx, renA_back hb y _ hy]
    · cases h
  | .iface t v, u, h => by
    simp only [renV] at h
    split at h
    · rename_i v' hv; cases h; simp [renV, renV_back hb v _ hv]
    · cases h
  | .agg cs, u, h => by
    simp only [renV] at h
    split at h
    · rename_i v' hv; cases h; simp [renV, renA_back hb cs _ hv]
    · cases h
  | .tuple cs, u, h => by
    simp only [renV] at h
    split at h
    · rename_i v' hv; cases h; simp [renV, renA_back hb cs _ hv]
    · cases h
  | .bool _, u, h => by cases h; rfl
  | .int _ _, u, h => by cases h; rfl
  | .float _ _, u, h => by cases h; rfl
  | .complex _ _ _, u, h => by cases h; rfl
  | .string _, u, h => by cases h; rfl
  | .map _, u, h => by cases h; rfl
  | .chan _, u, h => by cases h; rfl
  | .nilFunc, u, h => by cases h; rfl
  | .nilIface, u, h => by cases h; rfl
theorem renA_back {σ τ : Nat → Option Nat} (hb : ∀ i j, σ i = some j → τ j = some i) : ∀ (v u : Array Value), renA σ v = some u → renA τ u = some v
  | ⟨l⟩, u, h => by
    simp only [renA] at h
    split at h
    · rename_i l' hl; cases h; simp [renA, renL_back hb l _ hl]
    · cases h
theorem renL_back {σ τ : Nat → Option Nat} (hb : ∀ i j, σ i = some j → τ j = some i) : ∀ (v u : List Value), renL σ v = some u → renL τ u = some v
  | [], u, h => by cases h; rfl
  | v :: r, u, h => by
    simp only [renL] at h
    split at h
    · rename_i v' r' hv hr; cases h; simp [renL, renV_back hb v _ hv, renL_back hb r _ hr]
    · cases h
end

theorem renO_back {σ τ : Nat → Option Nat} (hb : ∀ i j, σ i = some j → τ j = some i) {o o' : AObj} (h : renO σ o = some o') : renO τ o' = some o := by
  unfold renO at h
  split at h
  · rename_i hf; cases h; simp [renO, hf]
  · rename_i hf
    split at h
    · rename_i l hl
      cases h
      have hf' : o.flat = false := by simpa using hf
      simp only [renO, hf', Bool.false_eq_true, if_false, renL_back hb _ _ hl]
      cases o
      simp_all
    · cases h

theorem renOs_back {σ τ : Nat → Option Nat} (hb : ∀ i j, σ i = some j → τ j = some i) : ∀ {l l' : List AObj}, renOs σ l = some l' → renOs τ l' = some l := by
  intro l
  induction l with
  | nil => intro l' h; cases h; rfl
  | cons o r ih =>
    intro l' h
    simp only [renOs] at h
    split at h
    · rename_i o' r' ho hr; cases h; simp [renOs, renO_back hb ho, ih hr]
    · cases h

theorem gather_get : ∀ {L : List Nat} {h : AHeap} {os : List AObj}, gather h L = some os → os.length = L.length ∧ ∀ (j : Nat) i, L[j]? = some i → ∃ o, os[j]? = some o ∧ hget h i = some o := by
  intro L
  induction L with
  | nil => intro h os hg; cases hg; exact ⟨rfl, fun j i hi => by simp at hi⟩
  | cons k r ih =>
    intro h os hg
    simp only [gather] at hg
    split at hg
    · rename_i o os' h1 h2
      cases hg
      obtain ⟨g1, g2⟩ := ih h2
      refine ⟨by simp [g1], fun j i hi => ?_⟩
      cases j with
      | zero => simp at hi; subst hi; exact ⟨o, rfl, h1⟩
      | succ j => obtain ⟨p, hp, hh⟩ := g2 j i (by simpa using hi); exact ⟨p, by simpa using hp, hh⟩
    · cases hg

theorem scatter_same : ∀ {L : List Nat} {h : AHeap} {os : List AObj}, gather h L = some os → scatter h L os = h := by
  intro L
  induction L with
  | nil => intro h os hg; cases hg; rfl
  | cons k r ih =>
    intro h os hg
    simp only [gather] at hg
    split at hg
    · rename_i o os' h1 h2
      cases hg
      simp only [scatter]
      rw [hset_same h1]
      exact ih h2
    · cases hg

/-- The places behind a call. -/
def plBack (m m' : Pl) (L : List Nat) (b n : Nat) : Pl := fun i => match idx L i with
  | some j => m' j
  | none => if b ≤ i ∧ i < b + n then m' (L.length + (i - b)) else m i

set_option maxHeartbeats 1000000 in
theorem graft {M : Mem} {m m' : Pl} {h : AHeap} {w w' : World} {L : List Nat} {b : Nat} {objs lo os' ns og ng : List AObj} (r : HRel M m h w) (hd : L.Nodup) (hg : gather h L = some objs) (hlo : renOs (idx L) objs = some lo)
    (tr : Tr M (fun j => m (L.getD j 0)) (lo.map some) w m' ((os' ++ ns).map some) w') (hlen : os'.length = lo.length) (hog : renOs (outN L b) os' = some og) (hns : renOs (outN L b) ns = some ng)
    (room : Room h b ns.length) :
    Tr M m h w (plBack m m' L b ns.length) (place (scatter h L og) b ng) w' ∧ Emb (outN L b) m' ((os' ++ ns).map some) (plBack m m' L b ns.length) (place (scatter h L og) b ng) := by
  obtain ⟨g1, g2⟩ := gather_get hg
  obtain ⟨l1, l2⟩ := renOs_get hlo
  obtain ⟨o1, o2⟩ := renOs_get hog
  obtain ⟨n1, n2⟩ := renOs_get hns
  have hL : ∀ i ∈ L, ∃ o, hget h i = some o := fun i hi => by
    obtain ⟨j, hj, rfl⟩ := List.getElem_of_mem hi
    obtain ⟨o, _, ho⟩ := g2 j _ (List.getElem?_eq_getElem hj)
    exact ⟨o, ho⟩
  have hLlt : ∀ i ∈ L, i < h.length := fun i hi => by obtain ⟨o, ho⟩ := hL i hi; exact hget_lt ho
  have hsz : L.length = og.length := by omega
  obtain ⟨s1, s2⟩ := scatter_get L og h hd hsz hLlt
  have hroom : Room (scatter h L og) b ng.length := by
    refine ⟨by rw [s1]; exact room.1, fun k hk => ?_⟩
    rw [s2]
    have hn := room.2 k (by omega)
    cases hx : idx L (b + k) with
    | none => exact hn
    | some j =>
      obtain ⟨o, ho⟩ := hL _ (List.mem_of_getElem? (idx_get hx))
      rw [hn] at ho; cases ho
  have hp := place_get ng (scatter h L og) b hroom
  -- the numbers behind the call
  have newNotL : ∀ i, b ≤ i → i < b + ns.length → idx L i = none := fun i h1 h2 => by
    cases hx : idx L i with
    | none => rfl
    | some j =>
      obtain ⟨o, ho⟩ := hL _ (List.mem_of_getElem? (idx_get hx))
      have hn := room.2 (i - b) (by omega)
      rw [show b + (i - b) = i by omega, ho] at hn; cases hn
  have look : ∀ i, hget (place (scatter h L og) b ng) i = match idx L i with
      | some j => og[j]?
      | none => if b ≤ i ∧ i < b + ns.length then ng[i - b]? else hget h i := fun i => by
    rw [hp, s2]
    by_cases hb : b ≤ i ∧ i < b + ng.length
    · rw [if_pos hb, newNotL i hb.1 (by omega)]
      simp only
      rw [if_pos (by omega)]
    · rw [if_neg hb]
      cases hx : idx L i with
      | some j => rfl
      | none => simp only; rw [if_neg (by omega)]
  -- from the callee's number to ours
  have emb : Emb (outN L b) m' ((os' ++ ns).map some) (plBack m m' L b ns.length) (place (scatter h L og) b ng) := fun j i o hj ho => by
    rw [hget_map] at ho
    unfold outN at hj
    split at hj
    · rename_i hlt
      have hix := idx_of_get hd hj
      rw [List.getElem?_append_left (by omega)] at ho
      have hjo : j < og.length := by omega
      obtain ⟨p, hp1, hp2⟩ := o2 j og[j] (List.getElem?_eq_getElem hjo)
      rw [ho] at hp1; cases hp1
      have hpr := renO_props hp2
      refine ⟨og[j], by rw [look, hix]; exact List.getElem?_eq_getElem hjo, hpr.1, hpr.2.1, hpr.2.2.2, by simp [plBack, hix]⟩
    · rename_i hge
      cases hj
      rw [List.getElem?_append_right (by omega)] at ho
      have hjn : j - L.length < ns.length := by have := (List.getElem?_eq_some_iff.1 ho).1; omega
      have hjn' : j - L.length < ng.length := by omega
      obtain ⟨p, hp1, hp2⟩ := n2 (j - L.length) ng[j - L.length] (List.getElem?_eq_getElem hjn')
      rw [show j - os'.length = j - L.length by omega] at ho
      rw [ho] at hp1; cases hp1
      have hpr := renO_props hp2
      have hnl := newNotL (b + (j - L.length)) (by omega) (by omega)
      refine ⟨ng[j - L.length], ?_, hpr.1, hpr.2.1, hpr.2.2.2, ?_⟩
      · rw [look, hnl]
        simp only
        rw [if_pos (by omega), Nat.add_sub_cancel_left]
        exact List.getElem?_eq_getElem hjn'
      · simp only [plBack, hnl]
        rw [if_pos (by omega), Nat.add_sub_cancel_left, show L.length + (j - L.length) = j by omega]
  -- of each live number: the callee's, or an old one that the callee doesn't reach
  have kind : ∀ i p, hget (place (scatter h L og) b ng) i = some p →
      (∃ j q, ((os' ++ ns).map some)[j]? = some (some q) ∧ renO (outN L b) q = some p ∧ outN L b j = some i ∧ plBack m m' L b ns.length i = m' j) ∨
      (idx L i = none ∧ hget h i = some p ∧ plBack m m' L b ns.length i = m i) := fun i p hi => by
    rw [look] at hi
    cases hx : idx L i with
    | some j =>
      simp only [hx] at hi
      obtain ⟨q, hq1, hq2⟩ := o2 j p hi
      have hjl : j < L.length := (List.getElem?_eq_some_iff.1 (idx_get hx)).1
      refine .inl ⟨j, q, ?_, hq2, ?_, by simp [plBack, hx]⟩
      · rw [List.getElem?_map, List.getElem?_append_left (by have := (List.getElem?_eq_some_iff.1 hq1).1; omega), hq1]; rfl
      · simp only [outN, hjl, if_true]; exact idx_get hx
    | none =>
      simp only [hx] at hi
      split at hi
      · rename_i hb
        obtain ⟨q, hq1, hq2⟩ := n2 (i - b) p hi
        refine .inl ⟨L.length + (i - b), q, ?_, hq2, ?_, ?_⟩
        · rw [List.getElem?_map, List.getElem?_append_right (by omega), show L.length + (i - b) - os'.length = i - b by omega, hq1]; rfl
        · simp only [outN]; rw [if_neg (by omega), Nat.add_sub_cancel_left]; congr 1; omega
        · simp [plBack, hx, hb]
      · rename_i hb
        exact .inr ⟨rfl, hi, by simp [plBack, hx, hb]⟩
  have hgl : ∀ j q, ((os' ++ ns).map some)[j]? = some (some q) → hget ((os' ++ ns).map some) j = some q := fun j q hq => by unfold hget; rw [hq]
  have outInj : ∀ j k i, outN L b j = some i → outN L b k = some i → j < L.length + ns.length → k < L.length + ns.length → j = k := fun j k i hj hk hjl hkl => by
    unfold outN at hj hk
    split at hj
    · split at hk
      · have a := idx_of_get hd hj
        have c := idx_of_get hd hk
        rw [a] at c; cases c; rfl
      · cases hk
        have a := idx_of_get hd hj
        rw [newNotL _ (by omega) (by omega)] at a; cases a
    · split at hk
      · cases hj
        have a := idx_of_get hd hk
        rw [newNotL _ (by omega) (by omega)] at a; cases a
      · cases hj; simp at hk; omega
  -- a callee's block is not that of an old object that the callee doesn't reach
  have far : ∀ j q i p, ((os' ++ ns).map some)[j]? = some (some q) → idx L i = none → hget h i = some p → (m' j).1 ≠ (m i).1 := fun j q i p hq hi hp' e => by
    rcases tr.own j q (hgl j q hq) with h1 | ⟨k, ok, hk, h1⟩
    · have := r.lt hp'; omega
    · rw [hget_map] at hk
      have hkl : k < L.length := by have := (List.getElem?_eq_some_iff.1 hk).1; omega
      obtain ⟨o, _, ho⟩ := g2 k _ (List.getElem?_eq_getElem hkl)
      have hm : (m (L.getD k 0)).1 = (m i).1 := h1.symm.trans e
      rw [List.getD_eq_getElem?_getD, List.getElem?_eq_getElem hkl] at hm
      have := r.inj _ _ _ _ ho hp' hm
      exact idx_none hi (this ▸ List.getElem_mem hkl)
  have ext : Ext m h (plBack m m' L b ns.length) (place (scatter h L og) b ng) := fun i o ho => by
    cases hx : idx L i with
    | some j =>
      have hj := idx_get hx
      obtain ⟨o', ho1, ho2⟩ := g2 j i hj
      rw [ho] at ho2; cases ho2
      have hjl : j < L.length := (List.getElem?_eq_some_iff.1 hj).1
      have hjlo : j < lo.length := by omega
      obtain ⟨p, hp1, hp2⟩ := l2 j lo[j] (List.getElem?_eq_getElem hjlo)
      rw [ho1] at hp1; cases hp1
      have hpr := renO_props hp2
      obtain ⟨q, hq, e1, e2, e3, e4, e5⟩ := tr.ext j lo[j] (by rw [hget_map]; exact List.getElem?_eq_getElem hjlo)
      rw [hget_map, List.getElem?_append_left (by omega)] at hq
      have hjo : j < og.length := by omega
      obtain ⟨s, hs1, hs2⟩ := o2 j og[j] (List.getElem?_eq_getElem hjo)
      rw [hq] at hs1; cases hs1
      have hps := renO_props hs2
      refine ⟨og[j], by rw [look, hx]; exact List.getElem?_eq_getElem hjo, by rw [hps.1, e1, hpr.1], by rw [hps.2.1, e2, hpr.2.1], by rw [hps.2.2.1, e3, hpr.2.2.1], by rw [hps.2.2.2, ← hpr.2.2.2]; exact e4, fun hl => ?_⟩
      simp only [plBack, hx]
      have := e5 (by rw [← hps.2.2.2, hl, hpr.2.2.2])
      rw [this]
      simp [List.getD_eq_getElem?_getD, hj]
    | none =>
      have hnb : ¬ (b ≤ i ∧ i < b + ns.length) := fun hb => by
        have hn := room.2 (i - b) (by omega)
        rw [show b + (i - b) = i by omega, ho] at hn; cases hn
      refine ⟨o, by rw [look, hx]; simp only; rw [if_neg hnb]; exact ho, rfl, rfl, rfl, Nat.le_refl _, fun _ => by simp [plBack, hx, hnb]⟩
  refine ⟨⟨⟨fun i k p q hi hk e => ?_, fun i p hi => ?_, fun bl off v hv => ?_, fun bl x hx => ?_⟩, ext, tr.os, tr.tape, tr.output, tr.size, fun bl hbl hn => tr.frame bl hbl fun j q hq => ?_, fun i p hi => ?_⟩, emb⟩
  · rcases kind i p hi with ⟨j1, q1, a1, a2, a3, a4⟩ | ⟨a1, a2, a3⟩
    · rcases kind k q hk with ⟨j2, q2, c1, c2, c3, c4⟩ | ⟨c1, c2, c3⟩
      · rw [a4, c4] at e
        have := tr.rel.inj j1 j2 q1 q2 (hgl _ _ a1) (hgl _ _ c1) e
        subst this
        rw [a3] at c3; cases c3; rfl
      · rw [a4, c3] at e
        exact absurd e (far j1 q1 k q a1 c1 c2)
    · rcases kind k q hk with ⟨j2, q2, c1, c2, c3, c4⟩ | ⟨c1, c2, c3⟩
      · rw [a3, c4] at e
        exact absurd e.symm (far j2 q2 i p c1 a1 a2)
      · rw [a3, c3] at e
        exact r.inj i k p q a2 c2 e
  · rcases kind i p hi with ⟨j1, q1, a1, a2, a3, a4⟩ | ⟨a1, a2, a3⟩
    · obtain ⟨cs, t, fz, x⟩ := tr.rel.obj j1 q1 (hgl _ _ a1)
      exact ⟨cs, t, fz, x.ren emb a2 a4⟩
    · obtain ⟨cs, t, fz, x⟩ := r.obj i p a2
      refine ⟨cs, t, fz, ⟨?_, by rw [a3]; exact x.size, x.len, x.free, x.one, x.flat, fun j u v hu hv => (x.rel j u v hu hv).mono ext⟩⟩
      rw [a3, tr.frame _ (r.lt a2) fun j q hq e => ?_]
      · exact x.blk
      · rw [hget_map] at hq
        have hjl : j < L.length := by have := (List.getElem?_eq_some_iff.1 hq).1; omega
        obtain ⟨o, _, ho⟩ := g2 j _ (List.getElem?_eq_getElem hjl)
        rw [List.getD_eq_getElem?_getD, List.getElem?_eq_getElem hjl] at e
        have := r.inj _ _ _ _ ho a2 e
        exact idx_none a1 (this ▸ List.getElem_mem hjl)
  · obtain ⟨c1, c2, c3, c4⟩ := tr.rel.ro bl off v hv
    refine ⟨c1, c2, c3, fun i p hi => ?_⟩
    rcases kind i p hi with ⟨j1, q1, a1, a2, a3, a4⟩ | ⟨a1, a2, a3⟩
    · rw [a4]; exact c4 j1 q1 (hgl _ _ a1)
    · rw [a3]; exact (r.ro bl off v hv).2.2.2 i p a2
  · obtain ⟨c1, c4⟩ := tr.rel.big bl x hx
    refine ⟨c1, fun i p hi => ?_⟩
    rcases kind i p hi with ⟨j1, q1, a1, a2, a3, a4⟩ | ⟨a1, a2, a3⟩
    · rw [a4]; exact c4 j1 q1 (hgl _ _ a1)
    · rw [a3]; exact (r.big bl x hx).2 i p a2
  · rw [hget_map] at hq
    have hjl : j < L.length := by have := (List.getElem?_eq_some_iff.1 hq).1; omega
    obtain ⟨o, _, ho⟩ := g2 j _ (List.getElem?_eq_getElem hjl)
    have := hn _ o ho
    rw [List.getD_eq_getElem?_getD, List.getElem?_eq_getElem hjl]
    exact this
  · rcases kind i p hi with ⟨j1, q1, a1, a2, a3, a4⟩ | ⟨a1, a2, a3⟩
    · rw [a4]
      rcases tr.own j1 q1 (hgl _ _ a1) with h1 | ⟨k, ok, hk, h1⟩
      · exact .inl h1
      · rw [hget_map] at hk
        have hkl : k < L.length := by have := (List.getElem?_eq_some_iff.1 hk).1; omega
        obtain ⟨o, _, ho⟩ := g2 k _ (List.getElem?_eq_getElem hkl)
        refine .inr ⟨L[k], o, ho, ?_⟩
        rw [h1, List.getD_eq_getElem?_getD, List.getElem?_eq_getElem hkl]
        rfl
    · exact .inr ⟨i, p, a2, by rw [a3]⟩

end Go.Ab

namespace Go.Ab

/-- Part of the memory under new numbers. -/
theorem restrict {M : Mem} {m : Pl} {h : AHeap} {w : World} (r : HRel M m h w) {L : List Nat} (hd : L.Nodup) {objs lo : List AObj} (hg : gather h L = some objs) (hlo : renOs (idx L) objs = some lo) :
    HRel M (fun j => m (L.getD j 0)) (lo.map some) w ∧ Emb (idx L) m h (fun j => m (L.getD j 0)) (lo.map some) := by
  obtain ⟨g1, g2⟩ := gather_get hg
  obtain ⟨l1, l2⟩ := renOs_get hlo
  have getD_eq : ∀ {j i : Nat}, L[j]? = some i → L.getD j 0 = i := fun {j i} hj => by rw [List.getD_eq_getElem?_getD, hj]; rfl
  have emb : Emb (idx L) m h (fun j => m (L.getD j 0)) (lo.map some) := fun i j o hj ho => by
    have hi := idx_get hj
    obtain ⟨p, hp1, hp2⟩ := g2 j i hi
    rw [ho] at hp2; cases hp2
    have hjl : j < lo.length := by have := (List.getElem?_eq_some_iff.1 hi).1; omega
    obtain ⟨q, hq1, hq2⟩ := l2 j lo[j] (List.getElem?_eq_getElem hjl)
    rw [hp1] at hq1; cases hq1
    have hpr := renO_props hq2
    exact ⟨lo[j], by rw [hget_map]; exact List.getElem?_eq_getElem hjl, hpr.1, hpr.2.1, hpr.2.2.2, by simp only; rw [getD_eq hi]⟩
  have obj : ∀ j p, hget (lo.map some) j = some p → ∃ i o, L[j]? = some i ∧ hget h i = some o ∧ renO (idx L) o = some p := fun j p hp => by
    rw [hget_map] at hp
    obtain ⟨o, ho1, ho2⟩ := l2 j p hp
    have hjl : j < L.length := by have := (List.getElem?_eq_some_iff.1 ho1).1; omega
    obtain ⟨q, hq1, hq2⟩ := g2 j L[j] (List.getElem?_eq_getElem hjl)
    rw [ho1] at hq1; cases hq1
    exact ⟨L[j], o, List.getElem?_eq_getElem hjl, hq2, ho2⟩
  refine ⟨⟨fun a b p q ha hb e => ?_, fun j p hp => ?_, fun b off v hv => ?_, fun b x hx => ?_⟩, emb⟩
  · obtain ⟨i, o, h1, h2, h3⟩ := obj a p ha
    obtain ⟨k, o', h4, h5, h6⟩ := obj b q hb
    rw [getD_eq h1, getD_eq h4] at e
    have := r.inj i k o o' h2 h5 e
    subst this
    have a1 := idx_of_get hd h1
    have a2 := idx_of_get hd h4
    rw [a1] at a2; cases a2; rfl
  · obtain ⟨i, o, h1, h2, h3⟩ := obj j p hp
    obtain ⟨cs, t, fz, x⟩ := r.obj i o h2
    exact ⟨cs, t, fz, x.ren emb h3 (by rw [getD_eq h1])⟩
  · obtain ⟨c1, c2, c3, c4⟩ := r.ro b off v hv
    refine ⟨c1, c2, c3, fun j p hp => ?_⟩
    obtain ⟨i, o, h1, h2, h3⟩ := obj j p hp
    rw [getD_eq h1]
    exact c4 i o h2
  · obtain ⟨c1, c4⟩ := r.big b x hx
    refine ⟨c1, fun j p hp => ?_⟩
    obtain ⟨i, o, h1, h2, h3⟩ := obj j p hp
    rw [getD_eq h1]
    exact c4 i o h2

/-- Known functions: what a call gives; whether a function leaves all that it is handed. -/
structure Fns where
  F : FuncId → List Value → List AObj → Option (Value × List AObj × List AObj)
  ro : FuncId → Bool

def Enters (P : Program) (f : FuncId) : Prop := ∃ fn, P.funcs[f]? = some fn ∧ (fn.name == "runtime.NumGoroutine") = false ∧ fn.body.isSome = true

/-- What a call gives: of a function with a body, which is entered, or of one of the model's own, which only reads. -/
def Answers (P : Program) (M : Mem) (f : FuncId) (args : List Value) (os : List AObj) (v : Value) (os' ns : List AObj) : Prop :=
  (Enters P f ∧ ACalls P M f args os v os' ns) ∨ (os' = os ∧ ns = [] ∧ ∀ (m : Pl) (w : World) (args' : Array Value), HRel M m (os.map some) w → LRel m (os.map some) args args'.toList →
    ∃ u, (callFunc f args').run P w = .ok (.value u) w ∧ VRel m (os.map some) v u)

def Fns.Sound (P : Program) (M : Mem) (K : Fns) : Prop := ∀ f args os v os' ns, K.F f args os = some (v, os', ns) → Answers P M f args os v os' ns ∧ (K.ro f = true → os' = os)

def nodupB : List Nat → Bool
  | [] => true
  | i :: r => !r.contains i && nodupB r

theorem nodupB_sound {l : List Nat} (h : nodupB l = true) : l.Nodup := by
  induction l with
  | nil => exact List.nodup_nil
  | cons i r ih =>
    simp only [nodupB, Bool.and_eq_true, Bool.not_eq_true', List.contains_eq_mem, decide_eq_false_iff_not] at h
    exact List.nodup_cons.2 ⟨h.1, ih h.2⟩

def callAct (K : Fns) (L : List Nat) (f : FuncId) (args : List Value) : Option AAct :=
  if nodupB L = true then match renL (idx L) args with
    | some largs => if K.ro f = true then
        some { rd := L, wt := [], f := fun b rs _ => match renOs (idx L) rs with
          | some lo => match K.F f largs lo with
            | some (v, _, ns) => match renV (outN L b) v, renOs (outN L b) ns with
              | some v', some ng => some (v', [], ng)
              | _, _ => none
            | none => none
          | none => none }
      else
        some { rd := [], wt := L, f := fun b _ os => match renOs (idx L) os with
          | some lo => match K.F f largs lo with
            | some (v, os', ns) => match renV (outN L b) v, renOs (outN L b) os', renOs (outN L b) ns with
              | some v', some og, some ng => some (v', og, ng)
              | _, _, _ => none
            | none => none
          | none => none }
    | none => none
  else none

theorem renOs_len {σ : Nat → Option Nat} {l l' : List AObj} (h : renOs σ l = some l') : l'.length = l.length := (renOs_get h).1

theorem idx_outN {L : List Nat} {b : Nat} : ∀ i j, idx L i = some j → outN L b j = some i := fun i j h => by
  have h1 := idx_get h
  have h2 := (List.getElem?_eq_some_iff.1 h1).1
  simp only [outN, h2, if_true]
  exact h1

theorem execOp_call {P : Program} {o : Oper} {a : Go.Act} {fx : Operand} {args : Array Operand} {ts : Array TypeId} (ho : o.op = .call ⟨.value fx, args, ts⟩) {f : FuncId} {fi ca : Array Value} (hf : a.eval fx = .func (.func f) fi ca) (he : Enters P f) (w : World) :
    (execOp a.eval o).run P w = .ok (.enter f (fi ++ args.map a.eval ++ ca)) w := by
  obtain ⟨fn, h1, h2, h3⟩ := he
  cases hb : fn.body with
  | none => rw [hb] at h3; cases h3
  | some c =>
    have hnb : fn.body.isNone = false := by rw [hb]; rfl
    simp only [execOp, ho, resolve, Sem.run_bind, hf, Deferred.ofValue, Sem.run_pure, Result.andThen_ok, invoke, callFunc, run_program, h1, h2, hnb, Bool.false_eq_true, if_false, Sem.run_ite]

theorem execOp_ext {P : Program} {o : Oper} {a : Go.Act} {fx : Operand} {args : Array Operand} {ts : Array TypeId} (ho : o.op = .call ⟨.value fx, args, ts⟩) {f : FuncId} {fi ca : Array Value} (hf : a.eval fx = .func (.func f) fi ca) {w : World} {u : Value}
    (hu : (callFunc f (fi ++ args.map a.eval ++ ca)).run P w = .ok (.value u) w) : (execOp a.eval o).run P w = .ok (.value u) w := by
  simp only [execOp, ho, resolve, Sem.run_bind, hf, Deferred.ofValue, Sem.run_pure, Result.andThen_ok, invoke]
  exact hu

theorem callAct_sound {P : Program} {M : Mem} {K : Fns} (hK : K.Sound P M) {m : Pl} {h h' : AHeap} {w : World} (r : HRel M m h w) {o : Oper} {a : Go.Act} {fx : Operand} {xs : Array Operand} {ts : Array TypeId} (ho : o.op = .call ⟨.value fx, xs, ts⟩)
    {f : FuncId} {fi ca : Array Value} {us : List Value} (hf : VRel m h (.func (.func f) fi ca) (a.eval fx)) (hus : LRel m h us (xs.toList.map a.eval)) {L : List Nat} {act : AAct} (hact : callAct K L f (fi.toList ++ us ++ ca.toList) = some act) {b : Nat} (hb : Room h b (act.cnt b h)) {v : Value} (hl : act.run b h = some (v, h')) :
    OpOk P M o a m h w v h' := by
  obtain ⟨fi', ca', hfv, hfi, hca⟩ : ∃ fi' ca', a.eval fx = .func (.func f) fi' ca' ∧ LRel m h fi.toList fi'.toList ∧ LRel m h ca.toList ca'.toList := by
    generalize a.eval fx = q at hf
    cases hf with
    | same hg =>
      simp only [ground, Bool.and_eq_true] at hg
      exact ⟨fi, ca, rfl, LRel.same (by cases fi; simpa [groundA] using hg.1), LRel.same (by cases ca; simpa [groundA] using hg.2)⟩
    | func hx hpx hy hpy => exact ⟨_, _, rfl, ARel.list ⟨hx, hpx⟩, ARel.list ⟨hy, hpy⟩⟩
  have hargs : LRel m h (fi.toList ++ us ++ ca.toList) (fi' ++ xs.map a.eval ++ ca').toList := by
    have := (hfi.append hus).append hca
    simpa using this
  unfold callAct at hact
  split at hact
  · rename_i hnd
    have hd := nodupB_sound hnd
    split at hact
    · rename_i largs hla
      split at hact
      · rename_i hro
        cases hact
        simp only [AAct.run] at hl
        split at hl
        · rename_i rs os0 hg hg0
          cases hg0
          have hcnt := hb
          simp only [AAct.cnt, hg, gather] at hcnt
          split at hl
          · rename_i v1 os1 ns1 hf1
            rw [hf1] at hcnt
            simp only at hcnt
            split at hf1
            · rename_i lo hlo
              split at hf1
              · rename_i v2 os2 ns2 hF
                split at hf1
                · rename_i v' ng hv' hng
                  cases hf1
                  simp only [scatter, Option.some.injEq, Prod.mk.injEq] at hl
                  obtain ⟨rfl, rfl⟩ := hl
                  obtain ⟨hcl, hro'⟩ := hK _ _ _ _ _ _ hF
                  have hos := hro' hro
                  subst hos
                  obtain ⟨hr1, hemb⟩ := restrict r hd hg hlo
                  have hback := renOs_back (idx_outN (b := b)) hlo
                  have hnl := renOs_len hng
                  intro Kk Q hk
                  rcases hcl with ⟨hen, hlen, hcall⟩ | ⟨_, hns, hext⟩
                  rotate_left
                  · subst hns
                    obtain ⟨u, hu, hvr⟩ := hext _ _ _ hr1 (hargs.ren hemb hla)
                    obtain ⟨ht, hem⟩ := graft r hd hg hlo (by rw [List.append_nil]; exact Tr.refl hr1) rfl hback hng (by rw [← hnl]; exact hcnt)
                    rw [scatter_same hg] at ht hem
                    simp only [Oper.wp, execOp_ext ho hfv hu, Oper.upon]
                    refine hk _ _ _ ht (hvr.ren (by rw [List.append_nil] at hem; exact hem) hv')
                  have hC := hcall _ _ _ hr1 (hargs.ren hemb hla)
                  simp only [Oper.wp, execOp_call ho hfv hen, Oper.upon]
                  refine hC.mono fun e w' he => ?_
                  obtain ⟨v'', m', rfl, htr, hvr⟩ := he
                  obtain ⟨ht, hem⟩ := graft r hd hg hlo htr rfl hback hng (by rw [← hnl]; exact hcnt)
                  rw [scatter_same hg] at ht hem
                  exact hk _ _ _ ht (hvr.ren hem hv')
                · cases hf1
              · cases hf1
            · cases hf1
          · cases hl
        · cases hl
      · rename_i hro
        cases hact
        simp only [AAct.run] at hl
        split at hl
        · rename_i rs0 os hg0 hg
          cases hg0
          have hcnt := hb
          simp only [AAct.cnt, hg, gather] at hcnt
          split at hl
          · rename_i v1 os1 ns1 hf1
            rw [hf1] at hcnt
            simp only at hcnt
            split at hf1
            · rename_i lo hlo
              split at hf1
              · rename_i v2 os2 ns2 hF
                split at hf1
                · rename_i v' og ng hv' hog hng
                  cases hf1
                  simp only [Option.some.injEq, Prod.mk.injEq] at hl
                  obtain ⟨rfl, rfl⟩ := hl
                  obtain ⟨hcl, hro'⟩ := hK _ _ _ _ _ _ hF
                  obtain ⟨hr1, hemb⟩ := restrict r hd hg hlo
                  have hnl := renOs_len hng
                  intro Kk Q hk
                  rcases hcl with ⟨hen, hlen, hcall⟩ | ⟨hos, hns, hext⟩
                  rotate_left
                  · subst hns hos
                    obtain ⟨u, hu, hvr⟩ := hext _ _ _ hr1 (hargs.ren hemb hla)
                    obtain ⟨ht, hem⟩ := graft r hd hg hlo (by rw [List.append_nil]; exact Tr.refl hr1) rfl hog hng (by rw [← hnl]; exact hcnt)
                    simp only [Oper.wp, execOp_ext ho hfv hu, Oper.upon]
                    refine hk _ _ _ ht (hvr.ren (by rw [List.append_nil] at hem; exact hem) hv')
                  have hC := hcall _ _ _ hr1 (hargs.ren hemb hla)
                  simp only [Oper.wp, execOp_call ho hfv hen, Oper.upon]
                  refine hC.mono fun e w' he => ?_
                  obtain ⟨v'', m', rfl, htr, hvr⟩ := he
                  obtain ⟨ht, hem⟩ := graft r hd hg hlo htr hlen hog hng (by rw [← hnl]; exact hcnt)
                  exact hk _ _ _ ht (hvr.ren hem hv')
                · cases hf1
              · cases hf1
            · cases hf1
          · cases hl
        · cases hl
    · cases hact
  · cases hact

end Go.Ab

namespace Go.Ab

def byteInts : List Value → Option (List Int)
  | [] => some []
  | .int .u8 n :: r => match byteInts r with
    | some l => some (n :: l)
    | none => none
  | _ => none

theorem byteInts_eq : ∀ {l : List Value} {ns : List Int}, byteInts l = some ns → l = ns.map (Value.int .u8) := by
  intro l
  induction l with
  | nil => intro ns h; cases h; rfl
  | cons v r ih =>
    intro ns h
    unfold byteInts at h
    split at h
    · rename_i heq; cases heq
    · rename_i n r' heq
      cases heq
      split at h
      · rename_i l hl; cases h; rw [ih hl]; rfl
      · cases h
    · cases h

theorem groundL_bytes (ns : List Int) : groundL (ns.map (Value.int .u8)) = true := (groundL_iff _).2 fun v hv => by
  obtain ⟨n, _, rfl⟩ := List.mem_map.1 hv; rfl

def strAct (P : Program) (M : Mem) (s d : TypeId) (x : Value) : Option AAct :=
  match P.underlying s, P.underlying d with
  | some (.slice e), some .string => match P.underlying e, srcN x with
    | some (.int .u8), some n => match x with
      | .slice (some _) _ _ => some { rd := srcFp x, wt := [], f := fun _ rs _ => match srcCells M 1 (olook (srcFp x) rs) n x with
        | some (us, _) => match byteInts us with
          | some ns => some (.string ⟨(ns.map fun n => UInt8.ofNat n.toNat).toArray⟩, [], [])
          | none => none
        | none => none }
      | .slice none 0 _ => some { rd := [], wt := [], f := fun _ _ _ => some (.string ⟨#[]⟩, [], []) }
      | _ => none
    | _, _ => none
  | some (.slice e), some (.slice e') => match P.underlying e', x with
    | some (.int .u8), .slice (some ⟨i, off, some sz⟩) n c => if Nat.beq s d then some { rd := [], wt := [i], f := fun _ _ os => match os with
        | [o] => if o.cells.length = sz ∧ 0 < c then some (.slice (some ⟨i, off, some sz⟩) n c, [o], []) else none
        | _ => none } else none
    | _, _ => none
  | _, _ => none

/-- One place behind a block's last cell is frozen: no object turns. -/
theorem tr_mark {M : Mem} {m : Pl} {h : AHeap} {w : World} (r : HRel M m h w) {i : Nat} {o : AObj} (ho : hget h i = some o) {k : Nat} (hk : k = (m i).2) : Tr M m h w m (h.set i (some o)) (w.freeze ⟨(m i).1, k, none⟩ 1) := by
  obtain ⟨cs, t, fz, x⟩ := r.obj i o ho
  have hsz : cs.size = k := by rw [hk]; exact x.size
  have e1 : (w.freeze ⟨(m i).1, k, none⟩ 1).heap = w.heap.modify (m i).1 fun
      | .cells c elem (lo, hi) => .cells c elem (if lo == hi then (k, k + 1) else (min lo k, max hi (k + 1)))
      | o => o := by unfold World.freeze; rw [if_neg (by decide)]; rfl
  refine Tr.upd (o' := o) r ho (fun _ _ => rfl) (.inl rfl) rfl rfl rfl (Nat.le_refl _) (fun _ => rfl) (by rw [e1]; simp) (fun b hb hne => by rw [e1, Array.getElem?_modify, if_neg (Ne.symm hne)]) ?_ ?_ ?_ (fun hext => ?_)
  · unfold World.freeze; rw [if_neg (by decide)]
  · unfold World.freeze; rw [if_neg (by decide)]
  · unfold World.freeze; rw [if_neg (by decide)]
  · obtain ⟨lo, hi⟩ := fz
    have hb : (w.freeze ⟨(m i).1, k, none⟩ 1).heap[(m i).1]? = some (.cells cs t (if lo == hi then (k, k + 1) else (min lo k, max hi (k + 1)))) := by
      rw [e1, Array.getElem?_modify, if_pos rfl, x.blk]; rfl
    refine ⟨cs, t, _, hb, x.size, x.len, ?_, x.one, x.flat, fun j u v hu hv => (x.rel j u v hu hv).mono hext⟩
    have hf := x.free
    unfold FzOk at hf ⊢
    simp only at hf
    by_cases hlh : lo = hi
    · rw [if_pos (by simpa using hlh)]; right; simp only; omega
    · rw [if_neg (by simpa using hlh)]; right; simp only; omega

theorem strAct_sound {P : Program} {M : Mem} {m : Pl} {h h' : AHeap} {w : World} (r : HRel M m h w) {o : Oper} {a : Go.Act} {s d : TypeId} {x : Operand} (ho' : o.op = .convert s d x) {val : Value}
    (hx : VRel m h val (a.eval x)) {act : AAct} (hact : strAct P M s d val = some act) {b : Nat} {v : Value} (hl : act.run b h = some (v, h')) : OpOk P M o a m h w v h' := by
  unfold strAct at hact
  split at hact
  · rename_i e hs hd
    split at hact
    · rename_i n he hn
      have hlen0 := srcN_run (P := P) hx hn w
      split at hact
      · rename_i ad ln cp
        cases hact
        simp only [AAct.run] at hl
        split at hl
        · rename_i rs os hg hg2
          cases hg2
          split at hl
          · rename_i v1 os1 ns1 hf
            split at hf
            · rename_i us fs hsrc
              split at hf
              · rename_i ns hns
                cases hf
                simp only [scatter, place, Option.some.injEq, Prod.mk.injEq] at hl
                obtain ⟨rfl, rfl⟩ := hl
                obtain ⟨vs, hrun, hrel, hul, hone, hgr⟩ := srcCells_sound (P := P) r hx (fun j p hp => olook_gather hg hp) hsrc
                have hus := byteInts_eq hns
                subst hus
                have hvs := hrel.eq (groundL_bytes ns)
                subst hvs
                obtain ⟨a', c', hv⟩ := hx.slc_inv
                have hn' : n = ln := by simp [srcN] at hn; omega
                subst hn'
                have hc := hrun w.drawn
                rw [hv] at hc
                simp only [Builtin.firstCells, Nat.mul_one] at hc
                refine .of_value (u := .string ⟨(ns.map fun n => UInt8.ofNat n.toNat).toArray⟩) (w' := w) ?_ (.refl r) (.same rfl)
                have h1 := run_convert_bytes_string (P := P) w s d e (some a') n c' hs he hd
                have h2 := run_bytesToString (P := P) w a' n c' ns hc
                rw [foldl_push_bytes] at h2
                simp only [execOp, ho', hv, Sem.run_bind, h1, h2, Result.andThen_ok, Sem.run_pure]
                simp [ByteArray.empty, ByteArray.emptyWithCapacity]
                rfl
              · cases hf
            · cases hf
          · cases hl
        · cases hl
      · rename_i c
        cases hact
        simp only [AAct.run, gather, scatter, place, Option.some.injEq, Prod.mk.injEq] at hl
        obtain ⟨rfl, rfl⟩ := hl
        have hv := hx.eq rfl
        refine .of_value (u := .string ⟨#[]⟩) (w' := w) ?_ (.refl r) (.same rfl)
        have h1 := run_convert_bytes_nil (P := P) w s e hs he 0 c d hd
        simp only [execOp, ho', hv, Sem.run_bind, h1, Result.andThen_ok, Sem.run_pure]
        rfl
      · cases hact
    · cases hact
  · rename_i e e' hs hd
    split at hact
    · rename_i i off sz n c he
      split at hact
      · rename_i hsd
        have hsd := Nat.eq_of_beq_eq_true hsd
        subst hsd
        rw [hs] at hd; cases hd
        cases hact
        simp only [AAct.run] at hl
        split at hl
        · rename_i rs os hg2 hg
          obtain ⟨ob, hob, rfl⟩ := gather_one hg
          simp only at hl
          split at hl
          · rename_i v1 os1 ns1 hf
            split at hf
            · rename_i hcs
              cases hf
              simp only [scatter, place, Option.some.injEq, Prod.mk.injEq] at hl
              obtain ⟨rfl, rfl⟩ := hl
              have hx0 := hx
              generalize hv : a.eval x = y at hx
              cases hx with
              | same hg => simp [ground] at hg
              | slc ho hle hc hva =>
                rename_i cap' o' a'
                rw [hob] at ho; cases ho
                obtain ⟨ha, _⟩ := hva hcs.1.symm
                have ha := ha (by omega)
                subst ha
                obtain ⟨cs, t, fz, xx⟩ := r.obj i _ hob
                have htr := tr_mark r hob (k := (m i).2) rfl
                have hsh : w.shape? (m i).1 = some (t, (m i).2) := by unfold World.shape?; rw [xx.blk]; simp [xx.size]
                refine .of_value (u := .slice (some ⟨(m i).1, off, none⟩) n cap') (w' := w.freeze ⟨(m i).1, (m i).2, none⟩ 1) ?_ htr (by have := hx0.mono htr.ext; rw [hv] at this; exact this)
                simp only [execOp, ho', hv]
                simp [convert, run_underlying hs, run_underlying he, markStringish, hsh, Sem.run_bind]
            · cases hf
          · cases hl
        · cases hl
      · cases hact
    · cases hact
  · cases hact

def bytesAct (P : Program) (s d : TypeId) (x : ByteArray) : Option AAct :=
  match P.underlying s, P.underlying d with
  | some _, some (.slice e) => match P.underlying e with
    | some (.int .u8) => some (newAct ⟨strCells x x.size, true, 1, true⟩ (slcTo x.size x.size x.size))
    | _ => none
  | _, _ => none

theorem strCells_len (x : ByteArray) : (strCells x x.size).length = x.size := by
  have : x.size = x.data.toList.length := by simp
  simp [strCells]

theorem strCells_ground (x : ByteArray) (n : Nat) : groundL (strCells x n) = true := (groundL_iff _).2 fun v hv => by
  simp only [strCells, List.mem_map] at hv
  obtain ⟨b, _, rfl⟩ := hv
  rfl

theorem bytesAct_sound {P : Program} {M : Mem} {m : Pl} {h h' : AHeap} {w : World} (r : HRel M m h w) {o : Oper} {a : Go.Act} {s d : TypeId} {x : Operand} (ho : o.op = .convert s d x) {str : ByteArray}
    (hx : VRel m h (.string str) (a.eval x)) {act : AAct} (hact : bytesAct P s d str = some act) {b : Nat} (hb : Room h b 1) {v : Value} (hl : act.run b h = some (v, h')) : OpOk P M o a m h w v h' := by
  unfold bytesAct at hact
  split at hact
  · rename_i du e hs hd
    split at hact
    · rename_i he
      cases hact
      obtain ⟨rfl, rfl⟩ := newAct_run hl
      have hv := hx.eq rfl
      have hrun := Lib.run_convert_string_bytes (P := P) w s d e str hs hd he
      have hcap : str.size ≤ grownCap w str.size 0 e := Nat.le_add_right _ _
      have hcs : (Lib.bytesCells w e str).size = grownCap w str.size 0 e := by
        have h1 : str.size = str.data.size := rfl
        simp only [Lib.bytesCells, Array.size_append, Array.size_map, Array.size_replicate]
        omega
      have hget : ∀ (j : Nat) v, (Lib.bytesCells w e str)[j]? = some v → (∃ n, v = .int .u8 n) ∧ ∀ u, (strCells str str.size)[j]? = some u → v = u := fun j v hv => by
        have h1 : str.size = str.data.toList.length := by simp
        have hl := strCells_len str
        simp only [Lib.bytesCells, Array.getElem?_append, Array.size_map] at hv
        split at hv
        · rename_i hj
          simp only [Array.getElem?_map] at hv
          have hj' : j < str.data.size := hj
          rw [Array.getElem?_eq_getElem hj'] at hv
          simp at hv
          refine ⟨⟨_, hv.symm⟩, fun u hu => ?_⟩
          simp only [strCells] at hu
          have h3 : str.data.size = str.size := rfl
          rw [List.getElem?_map, List.getElem?_take, if_pos (by omega)] at hu
          simp at hu
          obtain ⟨x1, hx1, hu⟩ := hu
          rw [Array.getElem?_eq_getElem hj'] at hx1
          cases hx1
          rw [← hu, ← hv]
        · rename_i hj
          rw [Array.getElem?_replicate] at hv
          split at hv
          · cases hv
            refine ⟨⟨0, rfl⟩, fun u hu => ?_⟩
            have := (List.getElem?_eq_some_iff.1 hu).1
            have h2 : str.data.size = str.size := rfl
            omega
          · cases hv
      have htr := Tr.new (w' := Lib.bytesWorld w e str) r hb.1 (by have := hb.2 0 (by omega); simpa using this) ⟨strCells str str.size, true, 1, true⟩ (Lib.bytesCells w e str) e ((Lib.bytesCells w e str).size, (Lib.bytesCells w e str).size + 1)
        (Lib.bytesWorld_at_new w e str) (fun k hk => Lib.bytesWorld_at_old w e str k hk) rfl rfl rfl (by simp only [strCells_len, hcs]; exact hcap) (.inr (Nat.le_refl _))
        (fun j v hv => by obtain ⟨⟨n, rfl⟩, _⟩ := hget j v hv; rfl) (fun _ => strCells_ground _ _)
        (fun j u v hu hv => by
          have := (hget j v hv).2 u hu
          subst this
          exact .same (groundL_get (strCells_ground _ _) hu))
      refine .of_value ?_ htr (new_slc (m := m) (h := h) (b := w.heap.size) (n := (Lib.bytesCells w e str).size) (o := ⟨strCells str str.size, true, 1, true⟩) (len := str.size) (cap := str.size) (cap' := grownCap w str.size 0 e) hb.1 (Nat.le_refl _) hcap rfl (by simp only [hcs]; omega) |> fun q => by rw [strCells_len] at q; exact q)
      simp only [execOp, ho, hv, Sem.run_bind, hrun, Result.andThen_ok, Sem.run_pure]
    · cases hact
  · cases hact

/-- The numbers of the objects that a value names. -/
def addN (l : List Nat) (i : Nat) : List Nat := if l.contains i then l else l ++ [i]

mutual
def idsV (l : List Nat) : Value → List Nat
  | .pointer (some ⟨i, _, some _⟩) => addN l i
  | .slice (some ⟨i, _, some _⟩) _ _ => addN l i
  | .func _ x y => idsA (idsA l x) y
  | .iface _ v => idsV l v
  | .agg cs => idsA l cs
  | .tuple cs => idsA l cs
  | _ => l
def idsA (l : List Nat) : Array Value → List Nat
  | ⟨x⟩ => idsL l x
def idsL (l : List Nat) : List Value → List Nat
  | [] => l
  | v :: r => idsL (idsV l v) r
end

def pureAct (v : Value) : AAct := { rd := [], wt := [], f := fun _ _ _ => some (v, [], []) }

theorem pureAct_run {v u : Value} {b : Nat} {h h' : AHeap} (hl : (pureAct v).run b h = some (u, h')) : u = v ∧ h' = h := by
  simp only [pureAct, AAct.run, gather, scatter, place, Option.some.injEq, Prod.mk.injEq] at hl
  exact ⟨hl.1.symm, hl.2.symm⟩

/-- Every operation (cl: to the numbers of the objects that the arguments name those that can be reached from them). -/
def opAct (P : Program) (M : Mem) (K : Fns) (cl : List Nat → List Nat) (ρ : Operand → Option Value) : Op → Option AAct
  | .load t x => match ρ x with
    | some (.pointer (some a)) => some (loadAct P M t a)
    | _ => none
  | .store t x y => match ρ x, ρ y with
    | some (.pointer (some a)), some v => storeAct P t a v
    | _, _ => none
  | .alloc t => allocAct P t
  | .box t x => match ρ x with
    | some v => boxAct P t v
    | none => none
  | .buildSlice t n ps => match aparts ρ ps.toList with
    | some l => buildSliceAct P t n l
    | none => none
  | .makeSlice t x y => match ρ x, ρ y with
    | some l, some c => makeAct P t l c
    | _, _ => none
  | .slice t x lo hi mx => match ρ x with
    | some (.string s) => match pv P ρ (.slice t x lo hi mx) with
      | some v => some (pureAct v)
      | none => none
    | some v => match pv.optv ρ lo, pv.optv ρ hi, pv.optv ρ mx with
      | some l, some h, some m => sliceAct P t v l h m
      | _, _, _ => none
    | none => none
  | .convert s d x => match ρ x with
    | some (.slice a n c) => strAct P M s d (.slice a n c)
    | some (.string str) => bytesAct P s d str
    | some _ => match pv P ρ (.convert s d x) with
      | some v => some (pureAct v)
      | none => none
    | none => none
  | .call ⟨.builtin .append, ⟨[x, y]⟩, ⟨[t1, t2]⟩⟩ => match ρ x, ρ y with
    | some u, some v => appendAct P M t1 t2 u v
    | _, _ => none
  | .call ⟨.builtin .copy, ⟨[x, y]⟩, ⟨[t1, t2]⟩⟩ => match ρ x, ρ y with
    | some u, some v => copyAct P M t1 u v
    | _, _ => none
  | .call ⟨.value fx, xs, ts⟩ => match ρ fx, avals ρ xs.toList with
    | some (.func (.func f) fi ca), some us => callAct K (cl (idsL [] (fi.toList ++ us ++ ca.toList))) f (fi.toList ++ us ++ ca.toList)
    | _, _ => none
  | op => match pv P ρ op with
    | some v => some (pureAct v)
    | none => none

theorem pv_ok {P : Program} {M : Mem} {m : Pl} {h h' : AHeap} {w : World} (r : HRel M m h w) {o : Oper} {a : Go.Act} {ρ : Operand → Option Value} (hρ : ∀ x u, ρ x = some u → VRel m h u (a.eval x)) {u : Value} (hp : pv P ρ o.op = some u)
    {b : Nat} {v : Value} (hl : (pureAct u).run b h = some (v, h')) : OpOk P M o a m h w v h' := by
  obtain ⟨rfl, rfl⟩ := pureAct_run hl
  obtain ⟨v', hv, hrun⟩ := pv_sound hρ hp
  exact .of_value (hrun w) (.refl r) hv

theorem room_new {act : AAct} {o : AObj} {f : Nat → Value} {b : Nat} {h : AHeap} (hb : Room h b (act.cnt b h)) (he : act = newAct o f) : Room h b 1 := by
  subst he; exact hb

set_option maxHeartbeats 1000000 in
theorem opAct_sound {P : Program} {M : Mem} {K : Fns} (hK : K.Sound P M) {cl : List Nat → List Nat} {m : Pl} {h h' : AHeap} {w : World} (r : HRel M m h w) {o : Oper} {a : Go.Act} {ρ : Operand → Option Value} (hρ : ∀ x u, ρ x = some u → VRel m h u (a.eval x))
    {act : AAct} (hact : opAct P M K cl ρ o.op = some act) {b : Nat} (hb : Room h b (act.cnt b h)) {v : Value} (hl : act.run b h = some (v, h')) : OpOk P M o a m h w v h' := by
  obtain ⟨op, hop⟩ : ∃ op, op = o.op := ⟨_, rfl⟩
  rw [← hop] at hact
  have pure_ok : ∀ u, pv P ρ op = some u → act = pureAct u → OpOk P M o a m h w v h' := fun u hp he => by
    subst he; exact pv_ok r hρ (by rw [← hop]; exact hp) hl
  unfold opAct at hact
  split at hact
  · split at hact
    · rename_i hx; cases hact; exact loadAct_sound r hop.symm (hρ _ _ hx) hl
    · cases hact
  · split at hact
    · rename_i hx hy; exact storeAct_sound r hop.symm (hρ _ _ hx) (hρ _ _ hy) hact hl
    · cases hact
  · refine allocAct_sound r hop.symm hact ?_ hl
    unfold allocAct at hact
    split at hact
    · split at hact
      · cases hact; exact hb
      · cases hact
    · cases hact
  · split at hact
    · rename_i hx
      refine boxAct_sound r hop.symm (hρ _ _ hx) hact ?_ hl
      unfold boxAct at hact
      split at hact
      · split at hact
        · cases hact; exact hb
        · cases hact
      · cases hact
    · cases hact
  · split at hact
    · rename_i hx
      refine buildSliceAct_sound r hop.symm hρ hx hact ?_ hl
      unfold buildSliceAct at hact
      split at hact
      · split at hact
        · split at hact
          · split at hact
            · split at hact
              · cases hact; exact hb
              · cases hact
            · cases hact
          · cases hact
        · cases hact
      · cases hact
    · cases hact
  · split at hact
    · rename_i hx hy
      refine makeAct_sound r hop.symm (hρ _ _ hx) (hρ _ _ hy) hact ?_ hl
      unfold makeAct at hact
      split at hact
      · split at hact
        · split at hact
          · cases hact; exact hb
          · cases hact
        · cases hact
      · cases hact
    · cases hact
  · split at hact
    · split at hact
      · rename_i v1 hv; cases hact; exact pure_ok _ hv rfl
      · cases hact
    · rename_i hx
      split at hact
      · rename_i l1 h1 m1 hlo hhi hmx
        exact sliceAct_sound r hop.symm (hρ _ _ hx) (optv_sound hρ hlo) (optv_sound hρ hhi) (optv_sound hρ hmx) hact hl
      · cases hact
    · cases hact
  · split at hact
    · rename_i hx; exact strAct_sound r hop.symm (hρ _ _ hx) hact hl
    · rename_i hx
      refine bytesAct_sound r hop.symm (hρ _ _ hx) hact ?_ hl
      unfold bytesAct at hact
      split at hact
      · split at hact
        · cases hact; exact hb
        · cases hact
      · cases hact
    · split at hact
      · rename_i v1 hv; cases hact; exact pure_ok _ hv rfl
      · cases hact
    · cases hact
  · split at hact
    · rename_i hx hy; exact appendAct_sound r hop.symm (hρ _ _ hx) (hρ _ _ hy) hact hb hl
    · cases hact
  · split at hact
    · rename_i hx hy; exact copyAct_sound r hop.symm (hρ _ _ hx) (hρ _ _ hy) hact hl
    · cases hact
  · split at hact
    · rename_i hf hus; exact callAct_sound hK r hop.symm (hρ _ _ hf) (avals_sound hρ _ _ hus) hact hb hl
    · cases hact
  · split at hact
    · rename_i v1 hv; cases hact; exact pure_ok _ hv rfl
    · cases hact

end Go.Ab

namespace Go.Ab

def ayield (ops : Array Oper) (ts : List Value) (j : Nat) : Option Bool :=
  match ops[j]? with
  | some o => match o.dst with
    | some d => match ts[d]? with
      | some (.bool b) => some b
      | _ => none
    | none => none
  | none => none

def awanted (ops : Array Oper) (ts : List Value) (o : Oper) : Bool :=
  match o.guard with
  | none => true
  | some (j, want) => match ayield ops ts j with
    | some b => b == want
    | none => false

theorem VRel.bool_inv {m : Pl} {h : AHeap} {u : Value} {b : Bool} (hr : VRel m h u (.bool b)) : u = .bool b := by cases hr; rfl

theorem ayield_eq {m : Pl} {h : AHeap} {ops : Array Oper} {ts : List Value} {a : Go.Act} (r : TRel m h ts a.tmps) (j : Nat) : ayield ops ts j = yielded ops a.tmps j := by
  unfold ayield yielded
  cases ho : ops[j]? with
  | none => rfl
  | some o =>
    simp only [Option.bind_some]
    cases hd : o.dst with
    | none => rfl
    | some d =>
      simp only [Option.bind_some]
      cases ht : ts[d]? with
      | none =>
        have : a.tmps[d]? = none := by
          rw [Array.getElem?_eq_none_iff]
          have h1 := List.getElem?_eq_none_iff.1 ht
          have h2 := r.1
          simp at h2
          omega
        rw [this]
      | some u =>
        obtain ⟨v, hv, hr⟩ := r.get ht
        have hv' : a.tmps[d]? = some v := by simpa using hv
        rw [hv']
        by_cases hb : ∃ b, u = .bool b
        · obtain ⟨b, rfl⟩ := hb
          have := hr.bool
          subst this
          rfl
        · have hv2 : ∀ b, v ≠ .bool b := fun b e => hb ⟨b, by subst e; exact hr.bool_inv⟩
          cases u <;> first
            | exact absurd ⟨_, rfl⟩ hb
            | (cases v <;> first | rfl | exact absurd rfl (hv2 _))

theorem awanted_eq {m : Pl} {h : AHeap} {ops : Array Oper} {ts : List Value} {a : Go.Act} (r : TRel m h ts a.tmps) (o : Oper) : awanted ops ts o = Region.wanted o (yielded ops a.tmps) := by
  unfold awanted Region.wanted
  split
  · rename_i hg; simp [hg]
  · rename_i j want hg
    simp only [hg]
    rw [ayield_eq r]
    cases yielded ops a.tmps j with
    | none => rfl
    | some b => cases b <;> cases want <;> rfl

section
variable (P : Program) (M : Mem) (K : Fns) (cl : List Nat → List Nat) (ops : Array Oper)

/-- One operation, its new objects from number b on. -/
def ostep (b : Nat) (o : Oper) (s : ASt) : Option ASt :=
  if awanted ops s.tmps o then match opAct P M K cl (aev s.tmps) o.op with
    | some act => match act.run b s.heap with
      | some (v, h') => some ⟨aput s.tmps o.dst v, h'⟩
      | none => none
    | none => none
  else some ⟨aput s.tmps o.dst undef, s.heap⟩

def ocnt (b : Nat) (o : Oper) (s : ASt) : Nat :=
  if awanted ops s.tmps o then match opAct P M K cl (aev s.tmps) o.op with
    | some act => act.cnt b s.heap
    | none => 0
  else 0

/-- One behind the other. -/
def rruns : List Nat → ASt → Option ASt
  | [], s => some s
  | i :: l, s => match ops[i]? with
    | none => rruns l s
    | some o => match ostep P M K cl ops s.heap.length o s with
      | some s' => rruns l s'
      | none => none
end

section
variable {P : Program} {M : Mem} {K : Fns} {cl : List Nat → List Nat} {ops : Array Oper}

theorem ostep_sound (hK : K.Sound P M) {m : Pl} {s s' : ASt} {w : World} {a : Go.Act} {o : Oper} {b : Nat} (r : HRel M m s.heap w) (ht : TRel m s.heap s.tmps a.tmps) (hd : a.defers = []) (hs : ostep P M K cl ops b o s = some s')
    (hb : Room s.heap b (ocnt P M K cl ops b o s)) {Kk : Go.Act → World → Prop} {Q : Exit → Go.Act → World → Prop}
    (hk : ∀ m' a' w', Tr M m s.heap w m' s'.heap w' → TRel m' s'.heap s'.tmps a'.tmps → a'.defers = [] → Kk a' w') :
    if Region.wanted o (yielded ops a.tmps) then o.wp P a w Kk Q ∨ (o.asks P a w ∧ LetsOut Q) else Kk (a.put o.dst undef) w := by
  have put_defers : ∀ (d : Option Tmp) (v : Value), (a.put d v).defers = [] := fun d v => by cases d <;> exact hd
  rw [← awanted_eq ht]
  unfold ostep at hs
  unfold ocnt at hb
  by_cases hw : awanted ops s.tmps o = true
  · rw [if_pos hw] at hs hb ⊢
    split at hs
    · rename_i act hact
      rw [hact] at hb
      split at hs
      · rename_i v h' hrun
        cases hs
        refine .inl (opAct_sound hK r (fun x u hx => aev_sound ht hx) hact hb hrun Kk Q fun m' w' u htr hv => ?_)
        exact hk m' _ w' htr (aput_sound (ht.mono htr.ext) hv) (put_defers _ _)
      · cases hs
    · cases hs
  · rw [if_neg hw] at hs ⊢
    cases hs
    exact hk m _ w (.refl r) (aput_sound ht (.same rfl)) (put_defers _ _)

theorem rruns_sound (hK : K.Sound P M) {Q : Exit → Go.Act → World → Prop} : ∀ (l : List Nat) {m : Pl} {s s' : ASt} {w : World} {a : Go.Act}, HRel M m s.heap w → TRel m s.heap s.tmps a.tmps → a.defers = [] → rruns P M K cl ops l s = some s' →
    (∀ m' a' w', Tr M m s.heap w m' s'.heap w' → TRel m' s'.heap s'.tmps a'.tmps → a'.defers = [] → Q .normal a' w') → wpOps P ops Q l a w := by
  intro l
  induction l with
  | nil => intro m s s' w a r ht hd hs hk; cases hs; exact hk m a w (.refl r) ht hd
  | cons i l ih =>
    intro m s s' w a r ht hd hs hk
    simp only [rruns] at hs
    simp only [wpOps]
    split at hs
    · rename_i ho
      simp only [ho]
      exact ih r ht hd hs hk
    · rename_i o ho
      simp only [ho]
      split at hs
      · rename_i s1 h1
        exact ostep_sound hK r ht hd h1 (Room.end_ _ _) fun m' a' w' htr ht' hd' => ih htr.rel ht' hd' hs fun m2 a2 w2 htr2 ht2 hd2 => hk m2 a2 w2 (htr.trans htr2) ht2 hd2
      · cases hs

end

/-- How a piece of code is left. -/
inductive AExit where
  | normal
  | exit (id : Nat)
  | ret
  deriving DecidableEq

def AExit.to : AExit → Exit
  | .normal => .normal
  | .exit id => .exit id
  | .ret => .ret

/-- From the abstract state s the code comes to s', left so. -/
def Big (P : Program) (M : Mem) (c : Code) (s : ASt) (e : AExit) (s' : ASt) : Prop :=
  ∀ (m : Pl) (a : Go.Act) (w : World), HRel M m s.heap w → TRel m s.heap s.tmps a.tmps → a.defers = [] →
    c.wp P (fun e1 a1 w1 => e1 = e.to ∧ ∃ m1, Tr M m s.heap w m1 s'.heap w1 ∧ TRel m1 s'.heap s'.tmps a1.tmps ∧ a1.defers = []) a w

section
variable {P : Program} {M : Mem}

theorem Big.skip {s : ASt} : Big P M .skip s .normal s := fun m a w r ht hd => wp_skip ⟨rfl, m, .refl r, ht, hd⟩
theorem Big.label {s : ASt} {l : Nat} : Big P M (.label l) s .normal s := fun m a w r ht hd => wp_label ⟨rfl, m, .refl r, ht, hd⟩
theorem Big.exit {s : ASt} {id : Nat} : Big P M (.exit id) s (.exit id) s := fun m a w r ht hd => wp_exit ⟨rfl, m, .refl r, ht, hd⟩
theorem Big.ret {s : ASt} : Big P M .ret s .ret s := fun m a w r ht hd => wp_ret ⟨rfl, m, .refl r, ht, hd⟩

theorem Big.seq {x y : Code} {s s1 s2 : ASt} {e : AExit} (h1 : Big P M x s .normal s1) (h2 : Big P M y s1 e s2) : Big P M (.seq x y) s e s2 := fun m a w r ht hd => by
  refine wp_seq (wp_mono (h1 m a w r ht hd) ?_)
  rintro e1 a1 w1 ⟨rfl, m1, htr, ht1, hd1⟩
  refine wp_mono (h2 m1 a1 w1 htr.rel ht1 hd1) ?_
  rintro e2 a2 w2 ⟨rfl, m2, htr2, ht2, hd2⟩
  exact ⟨rfl, m2, htr.trans htr2, ht2, hd2⟩

theorem Big.seq_out {x y : Code} {s s1 : ASt} {e : AExit} (he : e ≠ .normal) (h1 : Big P M x s e s1) : Big P M (.seq x y) s e s1 := fun m a w r ht hd => by
  refine wp_seq (wp_mono (h1 m a w r ht hd) ?_)
  rintro e1 a1 w1 ⟨rfl, hrest⟩
  cases e with
  | normal => exact absurd rfl he
  | exit id => exact ⟨rfl, hrest⟩
  | ret => exact ⟨rfl, hrest⟩

theorem Big.cond {c : Operand} {x y : Code} {s s1 : ASt} {e : AExit} {b : Bool} (hc : aev s.tmps c = some (.bool b)) (h : Big P M (if b then x else y) s e s1) : Big P M (.cond c x y) s e s1 :=
  fun m a w r ht hd => wp_cond ((aev_sound ht hc).bool) (h m a w r ht hd)

theorem Big.block {id : Nat} {c : Code} {s s1 : ASt} {e : AExit} (h : Big P M c s e s1) : Big P M (.block id c) s (match e with | .exit i => if i = id then .normal else .exit i | e => e) s1 := fun m a w r ht hd => by
  refine wp_block (wp_mono (h m a w r ht hd) ?_)
  rintro e1 a1 w1 ⟨rfl, hrest⟩
  cases e with
  | normal => exact ⟨rfl, hrest⟩
  | ret => exact ⟨rfl, hrest⟩
  | exit i =>
    simp only [AExit.to, Exit.inBlock]
    split
    · rename_i hi; exact ⟨rfl, hrest⟩
    · exact ⟨rfl, hrest⟩

theorem wp_loop_idx {c : Code} {Q : Exit → Go.Act → World → Prop} {a : Go.Act} {w : World} (I : Nat → Go.Act → World → Prop) (n : Nat) (h0 : I 0 a w)
    (round : ∀ k a w, k < n → I k a w → c.wp P (fun e a' w' => e = .normal ∧ I (k + 1) a' w') a w)
    (last : ∀ a w, I n a w → c.wp P (fun e a' w' => e ≠ .normal ∧ Q e a' w') a w) : (Code.loop c).wp P Q a w := by
  intro b k cs
  have key : ∀ d j a w, n - j = d → j ≤ n → I j a w →
      ∃ e a' w', Q e a' w' ∧ Arrives P (lone (b.at a (.code c :: .inLoop c :: k)) cs w) b k cs e a' w' := by
    intro d
    induction d with
    | zero =>
      intro j a w hd hj hI
      have hjn : j = n := by omega
      subst hjn
      obtain ⟨e, a₁, w₁, ⟨hne, hq⟩, harr⟩ := last a w hI b (.inLoop c :: k) cs
      cases e with
      | normal => exact absurd rfl hne
      | exit id => exact ⟨_, a₁, w₁, hq, .pass (x := .inLoop c) rfl (fun _ _ => .inl (by simp)) harr⟩
      | goto l => exact ⟨_, a₁, w₁, hq, .pass (x := .inLoop c) rfl (fun _ _ => .inl (by simp)) harr⟩
      | ret => exact ⟨_, a₁, w₁, hq, .pass (x := .inLoop c) rfl (fun _ _ => .inl (by simp)) harr⟩
      | panic ch => exact ⟨_, a₁, w₁, hq, .pass (x := .inLoop c) rfl (fun _ _ => .inl (by simp)) harr⟩
      | outgrown => exact ⟨_, a₁, w₁, hq, .pass (x := .inLoop c) rfl (fun _ _ => .inl (by simp)) harr⟩
    | succ d ih =>
      intro j a w hd hj hI
      obtain ⟨e, a₁, w₁, ⟨rfl, hI₁⟩, harr⟩ := round j a w (by omega) hI b (.inLoop c :: k) cs
      obtain ⟨e₂, a₂, w₂, hq₂, harr₂⟩ := ih (j + 1) a₁ w₁ (by omega) (by omega) hI₁
      exact ⟨e₂, a₂, w₂, hq₂, .of_steps (Steps.trans harr (.one step_inLoop)) harr₂⟩
  obtain ⟨e, a', w', hq, harr⟩ := key n 0 a w (by omega) (Nat.zero_le _) h0
  exact ⟨e, a', w', hq, .of_steps (.one step_loop) harr⟩

/-- A loop: n rounds, and then one that leaves it. -/
theorem Big.loop {c : Code} {e : AExit} (he : e ≠ .normal) (st : Nat → ASt) (n : Nat) {s' : ASt} (round : ∀ k, k < n → Big P M c (st k) .normal (st (k + 1))) (last : Big P M c (st n) e s') : Big P M (.loop c) (st 0) e s' := fun m a w r ht hd => by
  refine wp_loop_idx (fun k a1 w1 => ∃ m1, Tr M m (st 0).heap w m1 (st k).heap w1 ∧ TRel m1 (st k).heap (st k).tmps a1.tmps ∧ a1.defers = []) n ⟨m, .refl r, ht, hd⟩ ?_ ?_
  · rintro k a1 w1 hk ⟨m1, htr, ht1, hd1⟩
    refine wp_mono (round k hk m1 a1 w1 htr.rel ht1 hd1) ?_
    rintro e2 a2 w2 ⟨rfl, m2, htr2, ht2, hd2⟩
    exact ⟨rfl, m2, htr.trans htr2, ht2, hd2⟩
  · rintro a1 w1 ⟨m1, htr, ht1, hd1⟩
    refine wp_mono (last m1 a1 w1 htr.rel ht1 hd1) ?_
    rintro e2 a2 w2 ⟨rfl, m2, htr2, ht2, hd2⟩
    refine ⟨?_, rfl, m2, htr.trans htr2, ht2, hd2⟩
    cases e with
    | normal => exact absurd rfl he
    | exit id => simp [AExit.to]
    | ret => simp [AExit.to]

theorem Big.region {K : Fns} (hK : K.Sound P M) (cl : List Nat → List Nat) {id : Nat} {ops : Array Oper} {s s' : ASt} (h : rruns P M K cl ops (List.range ops.size) s = some s') : Big P M (.region id ops false) s .normal s' := fun m a w r ht hd =>
  wp_region (rruns_sound hK _ r ht hd h fun m' a' w' htr ht' hd' => ⟨rfl, m', htr, ht', hd'⟩)

end

end Go.Ab

namespace Go.Ab

/-- The operands that an operation's value hangs on. -/
def opnds : Op → List Operand
  | .move x | .assign x | .box _ x | .load _ x | .nilCheck x | .unOp _ _ x | .convert _ _ x | .sliceToArrayPointer _ x | .makeInterface _ x | .fieldAddr _ x _ | .field _ x _ | .extract x _ => [x]
  | .pick c a b => [c, a, b]
  | .build _ ps | .buildSlice _ _ ps => ps.toList.map (·.2)
  | .store _ a v | .binOp _ _ a v _ | .makeSlice _ a v | .indexAddr _ a v | .index _ a v => [a, v]
  | .makeFunc _ x y => x.toList ++ y.toList
  | .slice _ x l h m => x :: (l.toList ++ h.toList ++ m.toList)
  | .call ⟨.builtin _, xs, _⟩ => xs.toList
  | .call ⟨.value f, xs, _⟩ => f :: xs.toList
  | _ => []

theorem aparts_congr {ρ ρ' : Operand → Option Value} : ∀ (l : List (Nat × Operand)), (∀ x ∈ l.map (·.2), ρ x = ρ' x) → aparts ρ l = aparts ρ' l := by
  intro l
  induction l with
  | nil => intro _; rfl
  | cons p l ih =>
    intro h
    obtain ⟨i, x⟩ := p
    simp only [aparts]
    rw [h x (by simp), ih fun y hy => h y (by simp at hy ⊢; exact .inr hy)]

theorem avals_congr {ρ ρ' : Operand → Option Value} : ∀ (l : List Operand), (∀ x ∈ l, ρ x = ρ' x) → avals ρ l = avals ρ' l := by
  intro l
  induction l with
  | nil => intro _; rfl
  | cons x l ih =>
    intro h
    simp only [avals]
    rw [h x (by simp), ih fun y hy => h y (by simp [hy])]

theorem optv_congr {ρ ρ' : Operand → Option Value} {o : Option Operand} (h : ∀ x ∈ o.toList, ρ x = ρ' x) : pv.optv ρ o = pv.optv ρ' o := by
  cases o with
  | none => rfl
  | some x => simp only [pv.optv]; rw [h x (by simp)]

theorem pv_congr {P : Program} {ρ ρ' : Operand → Option Value} : ∀ (op : Op), (∀ x ∈ opnds op, ρ x = ρ' x) → pv P ρ op = pv P ρ' op := by
  intro op h
  unfold pv
  split <;> simp only [opnds, List.mem_cons, List.not_mem_nil, or_false, forall_eq, forall_eq_or_imp, List.mem_append] at h
  case h_4 => rw [aparts_congr _ h]
  case h_11 => rw [avals_congr _ fun x hx => h x (.inl hx), avals_congr _ fun x hx => h x (.inr hx)]
  case h_17 =>
    obtain ⟨h1, h2⟩ := h
    rw [h1, optv_congr fun x hx => h2 x (.inl (.inl hx)), optv_congr fun x hx => h2 x (.inl (.inr hx))]
  all_goals first
    | rfl
    | (rw [h])
    | (obtain ⟨h1, h2⟩ := h; rw [h1, h2])
    | (obtain ⟨h1, h2, h3⟩ := h; rw [h1, h2, h3])
    | (simp_all)

theorem opAct_congr {P : Program} {M : Mem} {K : Fns} {cl : List Nat → List Nat} {ρ ρ' : Operand → Option Value} : ∀ (op : Op), (∀ x ∈ opnds op, ρ x = ρ' x) → opAct P M K cl ρ op = opAct P M K cl ρ' op := by
  intro op h
  have hp := pv_congr (P := P) op h
  unfold opAct
  split <;> simp only [opnds, List.mem_cons, List.not_mem_nil, or_false, forall_eq, forall_eq_or_imp, List.mem_append] at h
  case h_5 => rw [aparts_congr _ h]
  case h_7 =>
    obtain ⟨h1, h2⟩ := h
    rw [h1, optv_congr fun x hx => h2 x (.inl (.inl hx)), optv_congr fun x hx => h2 x (.inl (.inr hx)), optv_congr fun x hx => h2 x (.inr hx), hp]
  case h_8 => rw [h, hp]
  case h_11 =>
    obtain ⟨h1, h2⟩ := h
    rw [h1, avals_congr _ h2]
  all_goals first
    | rfl
    | (rw [hp]; done)
    | (rw [h]; done)
    | (rw [h, hp])
    | (obtain ⟨h1, h2⟩ := h; rw [h1, h2])
    | (simp_all)

/-- Writes, one behind the other. -/
def hsets (h : AHeap) : List (Nat × AObj) → AHeap
  | [] => h
  | (i, o) :: r => hsets (h.set i (some o)) r

theorem hsets_length : ∀ (ws : List (Nat × AObj)) (h : AHeap), (hsets h ws).length = h.length := by
  intro ws
  induction ws with
  | nil => intro h; rfl
  | cons p r ih => intro h; obtain ⟨i, o⟩ := p; simp only [hsets]; rw [ih, List.length_set]

theorem hsets_append : ∀ (a b : List (Nat × AObj)) (h : AHeap), hsets h (a ++ b) = hsets (hsets h a) b := by
  intro a
  induction a with
  | nil => intro b h; rfl
  | cons p r ih => intro b h; obtain ⟨i, o⟩ := p; simp only [List.cons_append, hsets]; exact ih b _

theorem hsets_set_comm : ∀ (ws : List (Nat × AObj)) (h : AHeap) (i : Nat) (o : Option AObj), i ∉ ws.map (·.1) → hsets (h.set i o) ws = (hsets h ws).set i o := by
  intro ws
  induction ws with
  | nil => intro h i o _; rfl
  | cons p r ih =>
    intro h i o hi
    obtain ⟨j, q⟩ := p
    simp only [List.map_cons, List.mem_cons, not_or] at hi
    simp only [hsets]
    rw [List.set_comm _ _ hi.1, ih _ i o hi.2]

theorem hsets_comm : ∀ (a b : List (Nat × AObj)) (h : AHeap), (∀ i ∈ a.map (·.1), i ∉ b.map (·.1)) → hsets (hsets h a) b = hsets (hsets h b) a := by
  intro a
  induction a with
  | nil => intro b h _; rfl
  | cons p r ih =>
    intro b h hd
    obtain ⟨i, o⟩ := p
    simp only [hsets]
    rw [ih b _ fun k hk => hd k (by simp at hk ⊢; exact .inr hk), hsets_set_comm b h i _ (hd i (by simp))]

theorem hget_hsets : ∀ (ws : List (Nat × AObj)) (h : AHeap) (k : Nat), k ∉ ws.map (·.1) → hget (hsets h ws) k = hget h k := by
  intro ws
  induction ws with
  | nil => intro h k _; rfl
  | cons p r ih =>
    intro h k hk
    obtain ⟨i, o⟩ := p
    simp only [List.map_cons, List.mem_cons, not_or] at hk
    simp only [hsets]
    rw [ih _ k hk.2, hget_set_ne fun e => hk.1 e.symm]

theorem gather_congr : ∀ (L : List Nat) (h h' : AHeap), (∀ i ∈ L, hget h i = hget h' i) → gather h L = gather h' L := by
  intro L
  induction L with
  | nil => intro h h' _; rfl
  | cons i r ih =>
    intro h h' he
    simp only [gather]
    rw [he i (by simp), ih h h' fun k hk => he k (by simp [hk])]

theorem scatter_sets : ∀ (L : List Nat) (os : List AObj) (h : AHeap), scatter h L os = hsets h (L.zip os) := by
  intro L
  induction L with
  | nil => intro os h; cases os <;> rfl
  | cons i r ih =>
    intro os h
    cases os with
    | nil => rfl
    | cons o os => simp only [scatter, List.zip_cons_cons, hsets]; exact ih os _

def zipF (b : Nat) : List AObj → List (Nat × AObj)
  | [] => []
  | o :: r => (b, o) :: zipF (b + 1) r

theorem zipF_ids : ∀ (ns : List AObj) (b : Nat), (zipF b ns).map (·.1) = List.range' b ns.length := by
  intro ns
  induction ns with
  | nil => intro b; rfl
  | cons o r ih => intro b; simp [zipF, ih, List.range'_succ]

theorem place_sets : ∀ (ns : List AObj) (h : AHeap) (b : Nat), b + ns.length ≤ h.length → place h b ns = hsets h (zipF b ns) := by
  intro ns
  induction ns with
  | nil => intro h b _; rfl
  | cons o r ih =>
    intro h b hb
    simp only [List.length_cons] at hb
    simp only [place, zipF, hsets, hput]
    rw [if_pos (by omega)]
    exact ih _ _ (by rw [List.length_set]; omega)

theorem run_sets {x : AAct} {b : Nat} {h h' : AHeap} {v : Value} (hr : x.run b h = some (v, h')) (hl : b + x.cnt b h ≤ h.length) :
    ∃ rs os os' ns, gather h x.rd = some rs ∧ gather h x.wt = some os ∧ x.f b rs os = some (v, os', ns) ∧ x.cnt b h = ns.length ∧ h' = hsets h (x.wt.zip os' ++ zipF b ns) := by
  unfold AAct.run at hr
  split at hr
  · rename_i rs os hg1 hg2
    split at hr
    · rename_i v1 os1 ns1 hf
      cases hr
      have hc : x.cnt b h = ns1.length := by simp [AAct.cnt, hg1, hg2, hf]
      refine ⟨rs, os, os1, ns1, hg1, hg2, hf, hc, ?_⟩
      rw [hsets_append, ← scatter_sets, place_sets]
      rw [scatter_sets, hsets_length]
      omega
    · cases hr
  · cases hr

theorem run_of_sets {x : AAct} {b : Nat} {h : AHeap} {v : Value} {rs os os' ns : List AObj} (h1 : gather h x.rd = some rs) (h2 : gather h x.wt = some os) (hf : x.f b rs os = some (v, os', ns)) (hl : b + ns.length ≤ h.length) :
    x.run b h = some (v, hsets h (x.wt.zip os' ++ zipF b ns)) ∧ x.cnt b h = ns.length := by
  refine ⟨?_, by simp [AAct.cnt, h1, h2, hf]⟩
  simp only [AAct.run, h1, h2, hf]
  rw [hsets_append, ← scatter_sets, place_sets]
  rw [scatter_sets, hsets_length]
  exact hl

/-- What an operation touched: objects read, objects turned, its new numbers. -/
structure FP where
  rd : List Nat
  wt : List Nat
  b : Nat
  k : Nat

def FP.wr (p : FP) : List Nat := p.wt ++ List.range' p.b p.k

def disj (a b : List Nat) : Bool := a.all fun i => !b.contains i

theorem disj_mem {a b : List Nat} (h : disj a b = true) {i : Nat} (hi : i ∈ a) : i ∉ b := by
  have := List.all_eq_true.1 h i hi
  simpa using this

theorem act_swap {y x : AAct} {fy fx : FP} {h h1 h2 : AHeap} {vy vx : Value} (ey : fy.rd = y.rd ∧ fy.wt = y.wt) (ex : fx.rd = x.rd ∧ fx.wt = x.wt)
    (hy : y.run fy.b h = some (vy, h1)) (hyc : y.cnt fy.b h = fy.k) (hx : x.run fx.b h1 = some (vx, h2)) (hxc : x.cnt fx.b h1 = fx.k) (ly : fy.b + fy.k ≤ h.length) (lx : fx.b + fx.k ≤ h.length)
    (d1 : disj fy.wr (fx.rd ++ fx.wr) = true) (d2 : disj fx.wr fy.rd = true) :
    ∃ h1', x.run fx.b h = some (vx, h1') ∧ x.cnt fx.b h = fx.k ∧ y.run fy.b h1' = some (vy, h2) ∧ y.cnt fy.b h1' = fy.k ∧ h1'.length = h.length := by
  obtain ⟨rs, os, os', ns, a1, a2, a3, a4, a5⟩ := run_sets hy (by omega)
  subst a5
  obtain ⟨rs2, os2, os2', ns2, b1, b2, b3, b4, b5⟩ := run_sets hx (by rw [hsets_length]; omega)
  have idy : ∀ i ∈ (y.wt.zip os' ++ zipF fy.b ns).map (·.1), i ∈ fy.wr := fun i hi => by
    rw [List.map_append, zipF_ids] at hi
    simp only [FP.wr, List.mem_append, ey.2]
    rcases List.mem_append.1 hi with h3 | h3
    · obtain ⟨p, hp, rfl⟩ := List.mem_map.1 h3
      exact .inl (List.of_mem_zip hp).1
    · exact .inr (by rw [← hyc, a4]; exact h3)
  have idx' : ∀ i ∈ (x.wt.zip os2' ++ zipF fx.b ns2).map (·.1), i ∈ fx.wr := fun i hi => by
    rw [List.map_append, zipF_ids] at hi
    simp only [FP.wr, List.mem_append, ex.2]
    rcases List.mem_append.1 hi with h3 | h3
    · obtain ⟨p, hp, rfl⟩ := List.mem_map.1 h3
      exact .inl (List.of_mem_zip hp).1
    · exact .inr (by rw [← hxc, b4]; exact h3)
  have gx : ∀ i, i ∈ fx.rd ++ fx.wr → hget (hsets h (y.wt.zip os' ++ zipF fy.b ns)) i = hget h i := fun i hi => hget_hsets _ _ _ fun hm => disj_mem d1 (idy i hm) hi
  have c1 : gather h x.rd = some rs2 := by
    rw [← b1]; exact gather_congr _ _ _ fun i hi => (gx i (List.mem_append.2 (.inl (by rw [ex.1]; exact hi)))).symm
  have c2 : gather h x.wt = some os2 := by
    rw [← b2]; exact gather_congr _ _ _ fun i hi => (gx i (List.mem_append.2 (.inr (by simp only [FP.wr, List.mem_append, ex.2]; exact .inl hi)))).symm
  obtain ⟨e1, e2⟩ := run_of_sets (x := x) (h := h) c1 c2 b3 (by omega)
  have gy : ∀ i, i ∈ fy.rd ++ fy.wt → hget (hsets h (x.wt.zip os2' ++ zipF fx.b ns2)) i = hget h i := fun i hi => hget_hsets _ _ _ fun hm => by
    have hxw := idx' i hm
    rcases List.mem_append.1 hi with h3 | h3
    · exact disj_mem d2 hxw h3
    · exact disj_mem d1 (i := i) (by simp only [FP.wr, List.mem_append]; exact .inl h3) (List.mem_append.2 (.inr hxw))
  have c3 : gather (hsets h (x.wt.zip os2' ++ zipF fx.b ns2)) y.rd = some rs := by
    rw [← a1]; exact gather_congr _ _ _ fun i hi => gy i (List.mem_append.2 (.inl (by rw [ey.1]; exact hi)))
  have c4 : gather (hsets h (x.wt.zip os2' ++ zipF fx.b ns2)) y.wt = some os := by
    rw [← a2]; exact gather_congr _ _ _ fun i hi => gy i (List.mem_append.2 (.inr (by rw [ey.2]; exact hi)))
  obtain ⟨f1, f2⟩ := run_of_sets (x := y) (b := fy.b) c3 c4 a3 (by rw [hsets_length]; omega)
  refine ⟨_, e1, by omega, ?_, by omega, hsets_length _ _⟩
  rw [f1, b5, hsets_comm _ _ h fun i hi hj => disj_mem d1 (idy i hi) (List.mem_append.2 (.inr (idx' i hj)))]

end Go.Ab

namespace Go.Ab

def tmpOf : Operand → List Tmp
  | .tmp t => [t]
  | _ => []

/-- The slots that an operation looks at. -/
def looks (ops : Array Oper) (o : Oper) : List Tmp :=
  (opnds o.op).flatMap tmpOf ++ (match o.guard with
    | some (j, _) => match ops[j]? with
      | some p => p.dst.toList
      | none => []
    | none => [])

def tapart (ops : Array Oper) (y x : Oper) : Bool :=
  (match y.dst with
   | some d => !(looks ops x).contains d && x.dst != some d
   | none => true) &&
  (match x.dst with
   | some d => !(looks ops y).contains d
   | none => true)

def indep (ops : Array Oper) (y : Oper) (fy : FP) (x : Oper) (fx : FP) : Bool :=
  tapart ops y x && disj fy.wr (fx.rd ++ fx.wr) && disj fx.wr fy.rd

theorem getD_set_ne' {l : List Value} {d t : Nat} {v u : Value} (h : d ≠ t) : (l.set d v).getD t u = l.getD t u := by
  simp [List.getD_eq_getElem?_getD, List.getElem?_set_ne h]

theorem aev_put {ts : List Value} {d : Option Tmp} {v : Value} {x : Operand} (h : ∀ t, d = some t → x ≠ .tmp t) : aev (aput ts d v) x = aev ts x := by
  cases d with
  | none => rfl
  | some t =>
    cases x with
    | tmp u => simp only [aev, aput]; rw [getD_set_ne' fun e => h t rfl (by rw [e])]
    | _ => rfl

theorem mem_looks {ops : Array Oper} {o : Oper} {t : Tmp} (h : .tmp t ∈ opnds o.op) : t ∈ looks ops o := by
  simp only [looks, List.mem_append, List.mem_flatMap]
  exact .inl ⟨_, h, by simp [tmpOf]⟩

theorem awanted_put {ops : Array Oper} {ts : List Value} {d : Option Tmp} {v : Value} {o : Oper} (h : ∀ t, d = some t → t ∉ looks ops o) : awanted ops (aput ts d v) o = awanted ops ts o := by
  cases d with
  | none => rfl
  | some t =>
    unfold awanted
    cases hg : o.guard with
    | none => rfl
    | some p =>
      obtain ⟨j, want⟩ := p
      have : ayield ops (aput ts (some t) v) j = ayield ops ts j := by
        unfold ayield
        cases hj : ops[j]? with
        | none => rfl
        | some q =>
          simp only
          cases hd : q.dst with
          | none => rfl
          | some e =>
            simp only [aput]
            have hne : t ≠ e := fun he => h t rfl (by
              subst he
              simp only [looks, hg, hj, hd, List.mem_append]
              exact .inr (by simp))
            rw [List.getElem?_set_ne hne]
      simp only [this]

section
variable (P : Program) (M : Mem) (K : Fns) (cl : List Nat → List Nat) (ops : Array Oper)

def ofp (b : Nat) (o : Oper) (s : ASt) : FP :=
  if awanted ops s.tmps o then match opAct P M K cl (aev s.tmps) o.op with
    | some act => ⟨act.rd, act.wt, b, act.cnt b s.heap⟩
    | none => ⟨[], [], b, 0⟩
  else ⟨[], [], b, 0⟩

/-- Operation i, with this footprint. -/
def St (fp : Nat → FP) (i : Nat) (s s' : ASt) : Prop :=
  ∃ o, ops[i]? = some o ∧ ostep P M K cl ops (fp i).b o s = some s' ∧ ofp P M K cl ops (fp i).b o s = fp i

inductive Runs (fp : Nat → FP) : List Nat → ASt → ASt → Prop
  | nil (s : ASt) : Runs fp [] s s
  | cons {i : Nat} {l : List Nat} {s s1 s2 : ASt} (h : St P M K cl ops fp i s s1) (t : Runs fp l s1 s2) : Runs fp (i :: l) s s2
end

section
variable {P : Program} {M : Mem} {K : Fns} {cl : List Nat → List Nat} {ops : Array Oper} {fp : Nat → FP}

theorem aput_comm {ts : List Value} {d e : Option Tmp} {v u : Value} (h : ∀ t, d = some t → e ≠ some t) : aput (aput ts d v) e u = aput (aput ts e u) d v := by
  cases d with
  | none => rfl
  | some t =>
    cases e with
    | none => rfl
    | some r =>
      simp only [aput]
      exact List.set_comm _ _ fun he => h t rfl (by rw [he])

theorem ofp_b (b : Nat) (o : Oper) (s : ASt) : (ofp P M K cl ops b o s).b = b := by
  unfold ofp; split
  · split <;> rfl
  · rfl

theorem ocnt_eq (b : Nat) (o : Oper) (s : ASt) : ocnt P M K cl ops b o s = (ofp P M K cl ops b o s).k := by
  unfold ocnt ofp; split
  · cases opAct P M K cl (aev s.tmps) o.op <;> rfl
  · rfl

/-- Two operations that touch different things change places. -/
theorem St.swap {y x : Nat} {oy ox : Oper} {s s1 s2 : ASt} (hoy : ops[y]? = some oy) (hox : ops[x]? = some ox) (hi : indep ops oy (fp y) ox (fp x) = true)
    (hy : St P M K cl ops fp y s s1) (hx : St P M K cl ops fp x s1 s2) (ly : (fp y).b + (fp y).k ≤ s.heap.length) (lx : (fp x).b + (fp x).k ≤ s.heap.length) :
    ∃ s1', St P M K cl ops fp x s s1' ∧ St P M K cl ops fp y s1' s2 ∧ s1'.heap.length = s.heap.length := by
  obtain ⟨oy', hoy', hys, hyf⟩ := hy
  rw [hoy] at hoy'; cases hoy'
  obtain ⟨ox', hox', hxs, hxf⟩ := hx
  rw [hox] at hox'; cases hox'
  simp only [indep, Bool.and_eq_true] at hi
  obtain ⟨⟨hta, hd1⟩, hd2⟩ := hi
  have t1 : ∀ t, oy.dst = some t → t ∉ looks ops ox ∧ ox.dst ≠ some t := fun t ht => by
    simp only [tapart, ht, Bool.and_eq_true, Bool.not_eq_true', List.contains_eq_mem, decide_eq_false_iff_not, bne_iff_ne] at hta
    exact hta.1
  have t2 : ∀ t, ox.dst = some t → t ∉ looks ops oy := fun t ht => by
    simp only [tapart, ht, Bool.and_eq_true, Bool.not_eq_true', List.contains_eq_mem, decide_eq_false_iff_not] at hta
    exact hta.2
  have wx : ∀ ts v, awanted ops (aput ts oy.dst v) ox = awanted ops ts ox := fun ts v => awanted_put fun t ht => (t1 t ht).1
  have wy : ∀ ts v, awanted ops (aput ts ox.dst v) oy = awanted ops ts oy := fun ts v => awanted_put fun t ht => t2 t ht
  have ax : ∀ ts v, opAct P M K cl (aev (aput ts oy.dst v)) ox.op = opAct P M K cl (aev ts) ox.op := fun ts v =>
    opAct_congr _ fun z hz => aev_put fun t ht e => (t1 t ht).1 (by subst e; exact mem_looks hz)
  have ay : ∀ ts v, opAct P M K cl (aev (aput ts ox.dst v)) oy.op = opAct P M K cl (aev ts) oy.op := fun ts v =>
    opAct_congr _ fun z hz => aev_put fun t ht e => t2 t ht (by subst e; exact mem_looks hz)
  have comm : ∀ ts v u, aput (aput ts ox.dst u) oy.dst v = aput (aput ts oy.dst v) ox.dst u := fun ts v u => (aput_comm fun t ht => (t1 t ht).2).symm
  unfold St
  unfold ostep at hys hxs ⊢
  unfold ofp at hyf hxf ⊢
  by_cases hwy : awanted ops s.tmps oy = true
  · rw [if_pos hwy] at hys hyf
    split at hys
    · rename_i acty hay
      rw [hay] at hyf
      split at hys
      · rename_i vy h1 hry
        cases hys
        simp only at hxs hxf hyf
        rw [wx, ax] at hxs hxf
        by_cases hwx : awanted ops s.tmps ox = true
        · rw [if_pos hwx] at hxs hxf
          split at hxs
          · rename_i actx hax
            rw [hax] at hxf
            split at hxs
            · rename_i vx h2 hrx
              cases hxs
              simp only at hxf
              have ey : (fp y).rd = acty.rd ∧ (fp y).wt = acty.wt := by rw [← hyf]; exact ⟨rfl, rfl⟩
              have ex : (fp x).rd = actx.rd ∧ (fp x).wt = actx.wt := by rw [← hxf]; exact ⟨rfl, rfl⟩
              have ky : acty.cnt (fp y).b s.heap = (fp y).k := congrArg FP.k hyf
              have kx : actx.cnt (fp x).b h1 = (fp x).k := congrArg FP.k hxf
              obtain ⟨h1', e1, e2, e3, e4, e5⟩ := act_swap ey ex hry ky hrx kx ly lx hd1 hd2
              refine ⟨⟨aput s.tmps ox.dst vx, h1'⟩, ⟨ox, hox, ?_, ?_⟩, ⟨oy, hoy, ?_, ?_⟩, e5⟩
              · rw [if_pos hwx, hax]; simp only [e1]
              · rw [if_pos hwx, hax]; simp only [e2]; rw [← hxf, kx]
              · simp only [wy, ay]
                rw [if_pos hwy, hay]; simp only [e3, comm]
              · simp only [wy, ay]
                rw [if_pos hwy, hay]; simp only [e4]; rw [← hyf, ky]
            · cases hxs
          · cases hxs
        · rw [if_neg hwx] at hxs hxf
          cases hxs
          refine ⟨⟨aput s.tmps ox.dst undef, s.heap⟩, ⟨ox, hox, ?_, ?_⟩, ⟨oy, hoy, ?_, ?_⟩, rfl⟩
          · rw [if_neg hwx]
          · rw [if_neg hwx]; exact hxf
          · simp only [wy, ay]
            rw [if_pos hwy, hay]; simp only [hry, comm]
          · simp only [wy, ay]
            rw [if_pos hwy, hay]; exact hyf
      · cases hys
    · cases hys
  · rw [if_neg hwy] at hys hyf
    cases hys
    simp only at hxs hxf
    rw [wx, ax] at hxs hxf
    by_cases hwx : awanted ops s.tmps ox = true
    · rw [if_pos hwx] at hxs hxf
      split at hxs
      · rename_i actx hax
        rw [hax] at hxf
        split at hxs
        · rename_i vx h2 hrx
          cases hxs
          obtain ⟨rs2, os2, os2', ns2, b1, b2, b3, b4, b5⟩ := run_sets hrx (by have := congrArg FP.k hxf; simp only at this; omega)
          refine ⟨⟨aput s.tmps ox.dst vx, h2⟩, ⟨ox, hox, ?_, ?_⟩, ⟨oy, hoy, ?_, ?_⟩, ?_⟩
          · rw [if_pos hwx, hax]; simp only [hrx]
          · rw [if_pos hwx, hax]; exact hxf
          · simp only [wy]
            rw [if_neg hwy]; simp only [comm]
          · simp only [wy]
            rw [if_neg hwy]; exact hyf
          · simp only [b5, hsets_length]
        · cases hxs
      · cases hxs
    · rw [if_neg hwx] at hxs hxf
      cases hxs
      refine ⟨⟨aput s.tmps ox.dst undef, s.heap⟩, ⟨ox, hox, ?_, ?_⟩, ⟨oy, hoy, ?_, ?_⟩, rfl⟩
      · rw [if_neg hwx]
      · rw [if_neg hwx]; exact hxf
      · simp only [wy]
        rw [if_neg hwy]; simp only [comm]
      · simp only [wy]
        rw [if_neg hwy]; exact hyf

theorem St.length {i : Nat} {s s1 : ASt} (h : St P M K cl ops fp i s s1) (l : (fp i).b + (fp i).k ≤ s.heap.length) : s1.heap.length = s.heap.length := by
  obtain ⟨o, ho, hs, hf⟩ := h
  unfold ostep at hs
  unfold ofp at hf
  by_cases hw : awanted ops s.tmps o = true
  · rw [if_pos hw] at hs hf
    split at hs
    · rename_i act hact
      rw [hact] at hf
      split at hs
      · rename_i v h1 hr
        cases hs
        obtain ⟨_, _, _, _, _, _, _, _, b5⟩ := run_sets hr (by have := congrArg FP.k hf; simp only at this; omega)
        simp only [b5, hsets_length]
      · cases hs
    · cases hs
  · rw [if_neg hw] at hs
    cases hs
    rfl

/-- The operation x may come first. -/
theorem Runs.pull {n : Nat} {x : Nat} {ox : Oper} (hox : ops[x]? = some ox) : ∀ (T1 T2 : List Nat) {s s2 : ASt}, Runs P M K cl ops fp (T1 ++ x :: T2) s s2 → s.heap.length = n → (∀ i ∈ T1 ++ x :: T2, (fp i).b + (fp i).k ≤ n) →
    (∀ y ∈ T1, ∀ oy, ops[y]? = some oy → indep ops oy (fp y) ox (fp x) = true) →
    ∃ s1, St P M K cl ops fp x s s1 ∧ Runs P M K cl ops fp (T1 ++ T2) s1 s2 ∧ s1.heap.length = n := by
  intro T1
  induction T1 with
  | nil =>
    intro T2 s s2 h hn hl _
    cases h with
    | cons h t => exact ⟨_, h, t, by rw [h.length (by rw [hn]; exact hl x (by simp)), hn]⟩
  | cons y T1 ih =>
    intro T2 s s2 h hn hl hi
    cases h with
    | cons h t =>
      rename_i sy
      have hny : sy.heap.length = n := by rw [h.length (by rw [hn]; exact hl y (by simp)), hn]
      obtain ⟨s1, g1, g2, g3⟩ := ih T2 t hny (fun i hm => hl i (by simp at hm ⊢; exact .inr hm)) (fun z hz => hi z (by simp [hz]))
      obtain ⟨oy, hoy, _⟩ := id h
      obtain ⟨s1', k1, k2, k3⟩ := St.swap hoy hox (hi y (by simp) oy hoy) h g1 (by rw [hn]; exact hl y (by simp)) (by rw [hn]; exact hl x (by simp))
      exact ⟨s1', k1, .cons k2 g2, by rw [k3, hn]⟩

end

end Go.Ab

namespace Go.Ab

def unionN (a b : List Nat) : List Nat := b.foldl addN a

/-- What comes before each operation, by the edges, through others too. -/
def befs : List Oper → List (List Nat) → List (List Nat)
  | [], acc => acc
  | o :: r, acc => befs r (acc ++ [o.after.toList.foldl (fun l e => if Region.binds .any e then unionN (addN l e.on) (acc.getD e.on []) else l) []])

def okEdges (ops : Array Oper) : Bool := (List.range ops.size).all fun j => match ops[j]? with
  | some o => o.after.toList.all fun e => !Region.binds .any e || decide (e.on < j)
  | none => true

def fpAt (fps : List FP) (i : Nat) : FP := fps.getD i ⟨[], [], 0, 0⟩

def okPairs (ops : Array Oper) (pr : List (List Nat)) (fps : List FP) : Bool := (List.range ops.size).all fun j => (List.range j).all fun i => (pr.getD j []).contains i ||
  match ops[i]?, ops[j]? with
  | some oi, some oj => indep ops oi (fpAt fps i) oj (fpAt fps j)
  | _, _ => true

section
variable (P : Program) (M : Mem) (K : Fns) (cl : List Nat → List Nat) (ops : Array Oper)

def rtrace : List Nat → ASt → Option (ASt × List FP)
  | [], s => some (s, [])
  | i :: l, s => match ops[i]? with
    | none => none
    | some o => match ostep P M K cl ops s.heap.length o s with
      | some s' => match rtrace l s' with
        | some (s2, fps) => some (s2, ofp P M K cl ops s.heap.length o s :: fps)
        | none => none
      | none => none

/-- In the text's order, where every order gives the same. -/
def rdraw (s : ASt) : Option ASt :=
  match rtrace P M K cl ops (List.range ops.size) s with
  | some (s', fps) => if okEdges ops && okPairs ops (befs ops.toList []) fps then some s' else none
  | none => none
end

section
variable {P : Program} {M : Mem} {K : Fns} {cl : List Nat → List Nat} {ops : Array Oper}

theorem mem_addN {l : List Nat} {i k : Nat} (h : k ∈ addN l i) : k ∈ l ∨ k = i := by
  unfold addN at h
  split at h
  · exact .inl h
  · rcases List.mem_append.1 h with h | h
    · exact .inl h
    · exact .inr (by simpa using h)

theorem mem_unionN {b : List Nat} : ∀ {a : List Nat} {k : Nat}, k ∈ unionN a b → k ∈ a ∨ k ∈ b := by
  induction b with
  | nil => intro a k h; exact .inl h
  | cons i r ih =>
    intro a k h
    rcases ih h with h1 | h1
    · rcases mem_addN h1 with h2 | h2
      · exact .inl h2
      · exact .inr (by simp [h2])
    · exact .inr (by simp [h1])

/-- What is listed, with all that comes before it. -/
def Closed (ops : Array Oper) (listed : Array Bool) : Prop := ∀ j o, listed.getD j false = true → ops[j]? = some o → ∀ e ∈ o.after, Region.binds .any e = true → listed.getD e.on false = true

theorem befs_sound {listed : Array Bool} (hc : Closed ops listed) (hE : okEdges ops = true) : ∀ (r : List Oper) (acc : List (List Nat)), (∀ (i : Nat) (o : Oper), r[i]? = some o → ops[acc.length + i]? = some o) →
    (∀ (j : Nat) (l : List Nat), acc[j]? = some l → ∀ (o : Oper), ops[j]? = some o → (∀ e ∈ o.after, Region.binds .any e = true → listed.getD e.on false = true) → ∀ y ∈ l, listed.getD y false = true) →
    ∀ (j : Nat) (l : List Nat), (befs r acc)[j]? = some l → ∀ (o : Oper), ops[j]? = some o → (∀ e ∈ o.after, Region.binds .any e = true → listed.getD e.on false = true) → ∀ y ∈ l, listed.getD y false = true := by
  intro r
  induction r with
  | nil => intro acc _ h; exact h
  | cons o r ih =>
    intro acc hr h
    simp only [befs]
    refine ih _ (fun i p hp => ?_) (fun j l hl => ?_)
    · rw [List.length_append, List.length_singleton, show acc.length + 1 + i = acc.length + (i + 1) by omega]
      exact hr (i + 1) p (by simpa using hp)
    · rw [List.getElem?_append] at hl
      split at hl
      · exact h j l hl
      · rename_i hge
        intro q hq hall y hy
        have hj : j = acc.length := by
          have := (List.getElem?_eq_some_iff.1 hl).1
          simp at this; omega
        subst hj
        have hqo : q = o := by
          have := hr 0 o rfl
          rw [Nat.add_zero, hq] at this
          cases this; rfl
        subst hqo
        simp only [Nat.sub_self, List.getElem?_cons_zero, Option.some.injEq] at hl
        subst hl
        have hedge : ∀ e ∈ q.after, Region.binds .any e = true → e.on < acc.length := fun e he hb => by
          have h1 := List.all_eq_true.1 hE acc.length (List.mem_range.2 ((Array.getElem?_eq_some_iff.1 hq).1))
          simp only [hq] at h1
          have h2 := List.all_eq_true.1 h1 e (Array.mem_toList_iff.2 he)
          simpa [hb] using h2
        have fold : ∀ (es : List Edge) (l0 : List Nat), (∀ e ∈ es, e ∈ q.after) → (∀ z ∈ l0, listed.getD z false = true) →
            ∀ z ∈ es.foldl (fun l e => if Region.binds .any e then unionN (addN l e.on) (acc.getD e.on []) else l) l0, listed.getD z false = true := by
          intro es
          induction es with
          | nil => intro l0 _ h0; exact h0
          | cons e es ihe =>
            intro l0 he h0
            simp only [List.foldl_cons]
            refine ihe _ (fun x hx => he x (by simp [hx])) fun z hz => ?_
            split at hz
            · rename_i hb
              have heq := he e (by simp)
              have hlis := hall e heq hb
              rcases mem_unionN hz with h1 | h1
              · rcases mem_addN h1 with h2 | h2
                · exact h0 z h2
                · rw [h2]; exact hlis
              · have hlt := hedge e heq hb
                have hlo : ∃ p, ops[e.on]? = some p := by
                  have h3 := (Array.getElem?_eq_some_iff.1 hq).1
                  exact ⟨ops[e.on], Array.getElem?_eq_getElem (by omega)⟩
                obtain ⟨p, hp⟩ := hlo
                rw [List.getD_eq_getElem?_getD, List.getElem?_eq_getElem hlt] at h1
                exact h e.on acc[e.on] (List.getElem?_eq_getElem hlt) p hp (hc e.on p hlis hp) z h1
            · exact h0 z hz
        exact fold q.after.toList [] (fun e he => Array.mem_toList_iff.1 he) (fun z hz => by simp at hz) y hy

theorem befs_length : ∀ (r : List Oper) (acc : List (List Nat)), (befs r acc).length = acc.length + r.length := by
  intro r
  induction r with
  | nil => intro acc; rfl
  | cons o r ih => intro acc; simp only [befs]; rw [ih]; simp; omega

/-- What comes before an operation is listed, if what its edges name is. -/
theorem befs_listed {listed : Array Bool} (hc : Closed ops listed) (hE : okEdges ops = true) {x y : Nat} {ox : Oper} (hx : ops[x]? = some ox) (hall : ∀ e ∈ ox.after, Region.binds .any e = true → listed.getD e.on false = true)
    (hy : ((befs ops.toList []).getD x []).contains y = true) : listed.getD y false = true := by
  have hlt := (Array.getElem?_eq_some_iff.1 hx).1
  have hl : x < (befs ops.toList []).length := by rw [befs_length]; simpa using hlt
  rw [List.getD_eq_getElem?_getD, List.getElem?_eq_getElem hl] at hy
  exact befs_sound hc hE ops.toList [] (fun i o hi => by simpa using hi) (fun j l hj => by simp at hj) x _ (List.getElem?_eq_getElem hl) ox hx hall y (by simpa using hy)

theorem St.writes {fp : Nat → FP} {i : Nat} {s s1 : ASt} (h : St P M K cl ops fp i s s1) (l : (fp i).b + (fp i).k ≤ s.heap.length) :
    (∀ k, k ∉ (fp i).wr → hget s1.heap k = hget s.heap k) ∧ ∀ k ∈ (fp i).wt, ∃ o, hget s.heap k = some o := by
  obtain ⟨o, ho, hs, hf⟩ := h
  unfold ostep at hs
  unfold ofp at hf
  by_cases hw : awanted ops s.tmps o = true
  · rw [if_pos hw] at hs hf
    split at hs
    · rename_i act hact
      rw [hact] at hf
      split at hs
      · rename_i v h1 hr
        cases hs
        have hk := congrArg FP.k hf
        have hwt := congrArg FP.wt hf
        simp only at hk hwt
        obtain ⟨rs, os, os', ns, a1, a2, a3, a4, b5⟩ := run_sets hr (by omega)
        refine ⟨fun k hkn => ?_, fun k hkm => ?_⟩
        · simp only [b5]
          refine hget_hsets _ _ _ fun hm => hkn ?_
          rw [List.map_append, zipF_ids] at hm
          simp only [FP.wr, List.mem_append]
          rcases List.mem_append.1 hm with h3 | h3
          · obtain ⟨p, hp, rfl⟩ := List.mem_map.1 h3
            exact .inl (by rw [← hwt]; exact (List.of_mem_zip hp).1)
          · exact .inr (by rw [← hk, a4]; exact h3)
        · rw [← hwt] at hkm
          obtain ⟨j, hj, rfl⟩ := List.getElem_of_mem hkm
          obtain ⟨o, _, ho⟩ := (gather_get a2).2 j _ (List.getElem?_eq_getElem hj)
          exact ⟨o, ho⟩
      · cases hs
    · cases hs
  · rw [if_neg hw] at hs hf
    cases hs
    refine ⟨fun _ _ => rfl, fun k hk => ?_⟩
    have := congrArg FP.wt hf
    simp only at this
    rw [← this] at hk
    simp at hk

theorem any_sound (hK : K.Sound P M) (hE : okEdges ops = true) {fps : List FP} (hP : okPairs ops (befs ops.toList []) fps = true) {n : Nat}
    (hn : ∀ i, i < ops.size → (fpAt fps i).b + (fpAt fps i).k ≤ n) (hR : ∀ i j, i < j → j < ops.size → (fpAt fps i).b + (fpAt fps i).k ≤ (fpAt fps j).b) {Q : Exit → Go.Act → World → Prop} {se : ASt} :
    ∀ (fuel : Nat) (listed : Array Bool) (T : List Nat) {m : Pl} {s : ASt} {w : World} {a : Go.Act}, T.length ≤ fuel → listed.size = ops.size → (∀ j, j ∈ T ↔ j < ops.size ∧ listed.getD j false = false) → T.Pairwise (· < ·) → Closed ops listed →
      Runs P M K cl ops (fpAt fps) T s se → s.heap.length = n → (∀ j ∈ T, ∀ k, k < (fpAt fps j).k → hget s.heap ((fpAt fps j).b + k) = none) →
      HRel M m s.heap w → TRel m s.heap s.tmps a.tmps → a.defers = [] →
      (∀ m' a' w', Tr M m s.heap w m' se.heap w' → TRel m' se.heap se.tmps a'.tmps → a'.defers = [] → Q .normal a' w') → wpAny P .any ops Q fuel listed a w := by
  intro fuel
  induction fuel with
  | zero =>
    intro listed T m s w a hf hls hT hs hc hr hlen hroom r ht hd hk
    have hT0 : T = [] := List.eq_nil_of_length_eq_zero (by omega)
    subst hT0
    cases hr
    refine ⟨List.eq_nil_iff_forall_not_mem.2 fun j hj => ?_, hk m a w (.refl r) ht hd⟩
    obtain ⟨h1, o, h2, _⟩ := mem_ready.1 hj
    have hjl := (Array.getElem?_eq_some_iff.1 h2).1
    have : j ∈ ([] : List Nat) := (hT j).2 ⟨hjl, by
      have : j < listed.size := by omega
      simp [this] at h1 ⊢; exact h1⟩
    simp at this
  | succ fuel ih =>
    intro listed T m s w a hf hls hT hs hc hr hlen hroom r ht hd hk
    have getD_tf : ∀ j, j < ops.size → listed.getD j true = listed.getD j false := fun j hj => by
      have : j < listed.size := by omega
      simp [this]
    refine ⟨fun hnil => ?_, fun i hi => ?_⟩
    · have hT0 : T = [] := by
        cases T with
        | nil => rfl
        | cons y T' =>
          exfalso
          have hy := (hT y).1 (by simp)
          have hoy : ops[y]? = some ops[y] := Array.getElem?_eq_getElem hy.1
          have : y ∈ Region.ready .any ops listed := mem_ready.2 ⟨by rw [getD_tf y hy.1]; exact hy.2, ops[y], hoy, fun e he hb => by
            have h1 := List.all_eq_true.1 hE y (List.mem_range.2 hy.1)
            simp only [hoy] at h1
            have h2 := List.all_eq_true.1 h1 e (Array.mem_toList_iff.2 he)
            have hlt : e.on < y := by simpa [hb] using h2
            cases hl : listed.getD e.on false with
            | true => rfl
            | false =>
              have hm := (hT e.on).2 ⟨by omega, hl⟩
              rcases List.mem_cons.1 hm with h3 | h3
              · omega
              · have := (List.pairwise_cons.1 hs).1 e.on h3; omega⟩
          rw [hnil] at this; simp at this
      subst hT0
      cases hr
      exact hk m a w (.refl r) ht hd
    · obtain ⟨h1, o, ho, hall⟩ := mem_ready.1 hi
      have hil := (Array.getElem?_eq_some_iff.1 ho).1
      have hiT : i ∈ T := (hT i).2 ⟨hil, by rw [← getD_tf i hil]; exact h1⟩
      obtain ⟨T1, T2, rfl⟩ := List.append_of_mem hiT
      have hall' : ∀ e ∈ o.after, Region.binds .any e = true → listed.getD e.on false = true := hall
      have hsp := List.pairwise_append.1 hs
      have hind : ∀ y ∈ T1, ∀ oy, ops[y]? = some oy → indep ops oy (fpAt fps y) o (fpAt fps i) = true := fun y hy oy hoy => by
        have hlt : y < i := hsp.2.2 y hy i (by simp)
        have h2 := List.all_eq_true.1 hP i (List.mem_range.2 hil)
        have h3 := List.all_eq_true.1 h2 y (List.mem_range.2 hlt)
        simp only [hoy, ho, Bool.or_eq_true] at h3
        rcases h3 with h3 | h3
        · have := befs_listed hc hE ho hall' h3
          have hy' := ((hT y).1 (by simp [hy])).2
          rw [hy'] at this; cases this
        · exact h3
      have hnb : ∀ j ∈ T1 ++ i :: T2, (fpAt fps j).b + (fpAt fps j).k ≤ n := fun j hj => hn j ((hT j).1 hj).1
      obtain ⟨s1, hst, hruns, hlen1⟩ := Runs.pull ho T1 T2 hr hlen hnb hind
      obtain ⟨hw1, hw2⟩ := hst.writes (by rw [hlen]; exact hnb i hiT)
      obtain ⟨o', ho', hos, hof⟩ := hst
      rw [ho] at ho'; cases ho'
      have hT' : ∀ j, j ∈ T1 ++ T2 ↔ j < ops.size ∧ (listed.setIfInBounds i true).getD j false = false := fun j => by
        have hnd : i ∉ T1 ∧ i ∉ T2 := ⟨fun h => by have := hsp.2.2 i h i (by simp); omega, fun h => by have := (List.pairwise_cons.1 hsp.2.1).1 i h; omega⟩
        have hj := hT j
        simp only [List.mem_append, List.mem_cons] at hj ⊢
        by_cases hji : j = i
        · subst hji
          have : j < listed.size := by omega
          simp [this, hnd.1, hnd.2]
        · rw [getD_set_ne false fun e => hji e.symm]
          rw [← hj]
          simp [hji]
      have hs' : (T1 ++ T2).Pairwise (· < ·) := List.pairwise_append.2 ⟨hsp.1, (List.pairwise_cons.1 hsp.2.1).2, fun x hx y hy => hsp.2.2 x hx y (by simp [hy])⟩
      have hc' : Closed ops (listed.setIfInBounds i true) := fun j p hj hp e he hb => by
        by_cases hji : j = i
        · subst hji
          rw [ho] at hp; cases hp
          exact getD_set_true (hall' e he hb)
        · rw [getD_set_ne false fun e => hji e.symm] at hj
          exact getD_set_true (hc j p hj hp e he hb)
      have hroom' : ∀ j ∈ T1 ++ T2, ∀ k, k < (fpAt fps j).k → hget s1.heap ((fpAt fps j).b + k) = none := fun j hj k hkk => by
        have hjT : j ∈ T1 ++ i :: T2 := by
          rcases List.mem_append.1 hj with h | h
          · exact List.mem_append.2 (.inl h)
          · exact List.mem_append.2 (.inr (by simp [h]))
        have hnone := hroom j hjT k hkk
        rw [hw1 _ fun hm => ?_]
        · exact hnone
        · rcases List.mem_append.1 hm with h | h
          · obtain ⟨p, hp⟩ := hw2 _ h
            rw [hnone] at hp; cases hp
          · rw [List.mem_range'_1] at h
            have hjl := ((hT j).1 hjT).1
            have hne : j ≠ i := fun e => by
              subst e
              rcases List.mem_append.1 hj with h | h
              · have := hsp.2.2 j h j (by simp); omega
              · have := (List.pairwise_cons.1 hsp.2.1).1 j h; omega
            rcases Nat.lt_or_gt_of_ne hne with hlt | hlt
            · have := hR j i hlt hil; omega
            · have := hR i j hlt hjl; omega
      unfold wpOp
      simp only [ho]
      refine ostep_sound hK r ht hd hos ⟨?_, fun k hk' => ?_⟩ fun m' a' w' htr ht' hd' => ?_
      · rw [hlen]; have := hn i hil; omega
      · rw [ocnt_eq, hof] at hk'
        exact hroom i hiT k hk'
      · refine ih (listed.setIfInBounds i true) (T1 ++ T2) (by simp at hf ⊢; omega) (by simpa using hls) hT' hs' hc' hruns hlen1 hroom' htr.rel ht' hd' fun m2 a2 w2 htr2 ht2 hd2 => hk m2 a2 w2 (htr.trans htr2) ht2 hd2

end

end Go.Ab

namespace Go.Ab

def holes (h : AHeap) (n : Nat) : AHeap := h ++ List.replicate (n - h.length) none

theorem hget_holes (h : AHeap) (n i : Nat) : hget (holes h n) i = hget h i := by
  unfold holes hget
  by_cases hi : i < h.length
  · rw [List.getElem?_append_left hi]
  · rw [List.getElem?_append_right (by omega), List.getElem?_eq_none (l := h) (by omega), List.getElem?_replicate]
    by_cases h2 : i - h.length < n - h.length
    · rw [if_pos h2]
    · rw [if_neg h2]

theorem holes_length {h : AHeap} {n : Nat} (hn : h.length ≤ n) : (holes h n).length = n := by simp [holes]; omega

theorem place_end : ∀ (ns : List AObj) (h : AHeap), place h h.length ns = h ++ ns.map some := by
  intro ns
  induction ns with
  | nil => intro h; simp [place]
  | cons o r ih =>
    intro h
    simp only [place]
    rw [hput_end]
    have := ih (h ++ [some o])
    rw [List.length_append, List.length_singleton] at this
    rw [this]
    simp

theorem place_holes : ∀ (ns : List AObj) (h : AHeap) (n : Nat), h.length + ns.length ≤ n → place (holes h n) h.length ns = holes (h ++ ns.map some) n := by
  intro ns
  induction ns with
  | nil => intro h n _; simp [place]
  | cons o r ih =>
    intro h n hn
    simp only [List.length_cons] at hn
    have hlt : h.length < (holes h n).length := by rw [holes_length (by omega)]; omega
    simp only [place, hput]
    rw [if_pos hlt]
    have : (holes h n).set h.length (some o) = holes (h ++ [some o]) n := by
      simp only [holes, List.length_append, List.length_singleton]
      rw [List.set_append, if_neg (Nat.lt_irrefl _), Nat.sub_self]
      have : n - h.length = (n - (h.length + 1)) + 1 := by omega
      rw [this, List.replicate_succ, List.set_cons_zero]
      simp
    rw [this]
    have h2 := ih (h ++ [some o]) n (by simp; omega)
    rw [List.length_append, List.length_singleton] at h2
    rw [h2]
    simp

theorem scatter_length : ∀ (L : List Nat) (os : List AObj) (h : AHeap), (scatter h L os).length = h.length := by
  intro L
  induction L with
  | nil => intro os h; cases os <;> rfl
  | cons i r ih => intro os h; cases os with
    | nil => rfl
    | cons o os => simp only [scatter]; rw [ih, List.length_set]

theorem scatter_holes : ∀ (L : List Nat) (os : List AObj) (h : AHeap) (n : Nat), (∀ i ∈ L, i < h.length) → scatter (holes h n) L os = holes (scatter h L os) n := by
  intro L
  induction L with
  | nil => intro os h n _; cases os <;> rfl
  | cons i r ih =>
    intro os h n hi
    cases os with
    | nil => rfl
    | cons o os =>
      simp only [scatter]
      have : (holes h n).set i (some o) = holes (h.set i (some o)) n := by
        simp only [holes, List.length_set]
        rw [List.set_append, if_pos (hi i (by simp))]
      rw [this]
      exact ih os _ n fun k hk => by rw [List.length_set]; exact hi k (by simp [hk])

theorem gather_lt : ∀ {L : List Nat} {h : AHeap} {os : List AObj}, gather h L = some os → ∀ i ∈ L, i < h.length := by
  intro L h os hg i hi
  obtain ⟨j, hj, rfl⟩ := List.getElem_of_mem hi
  obtain ⟨o, _, ho⟩ := (gather_get hg).2 j _ (List.getElem?_eq_getElem hj)
  exact hget_lt ho

theorem act_holes {x : AAct} {h h' : AHeap} {v : Value} {n : Nat} (hr : x.run h.length h = some (v, h')) (hn : h'.length ≤ n) :
    h'.length = h.length + x.cnt h.length h ∧ x.run h.length (holes h n) = some (v, holes h' n) ∧ x.cnt h.length (holes h n) = x.cnt h.length h := by
  unfold AAct.run at hr
  split at hr
  · rename_i rs os hg1 hg2
    split at hr
    · rename_i v1 os1 ns1 hf
      cases hr
      have hc : x.cnt h.length h = ns1.length := by simp [AAct.cnt, hg1, hg2, hf]
      have e1 : gather (holes h n) x.rd = some rs := by rw [← hg1]; exact gather_congr _ _ _ fun i _ => hget_holes h n i
      have e2 : gather (holes h n) x.wt = some os := by rw [← hg2]; exact gather_congr _ _ _ fun i _ => hget_holes h n i
      have hsl := scatter_length x.wt os1 h
      have hpe : place (scatter h x.wt os1) h.length ns1 = scatter h x.wt os1 ++ ns1.map some := by rw [← hsl]; exact place_end _ _
      rw [hpe] at hn ⊢
      simp only [List.length_append, List.length_map, hsl] at hn
      refine ⟨by simp only [List.length_append, List.length_map, hsl, hc], ?_, by rw [hc]; simp [AAct.cnt, e1, e2, hf]⟩
      simp only [AAct.run, e1, e2, hf]
      rw [scatter_holes _ _ _ _ (gather_lt hg2)]
      have := place_holes ns1 (scatter h x.wt os1) n (by rw [hsl]; exact hn)
      rw [hsl] at this
      rw [this]
    · cases hr
  · cases hr

section
variable {P : Program} {M : Mem} {K : Fns} {cl : List Nat → List Nat} {ops : Array Oper}

theorem ostep_holes {o : Oper} {s s' : ASt} {n : Nat} (hs : ostep P M K cl ops s.heap.length o s = some s') (hn : s'.heap.length ≤ n) :
    s'.heap.length = s.heap.length + (ofp P M K cl ops s.heap.length o s).k ∧ ostep P M K cl ops s.heap.length o ⟨s.tmps, holes s.heap n⟩ = some ⟨s'.tmps, holes s'.heap n⟩ ∧
      ofp P M K cl ops s.heap.length o ⟨s.tmps, holes s.heap n⟩ = ofp P M K cl ops s.heap.length o s := by
  unfold ostep at hs ⊢
  unfold ofp
  by_cases hw : awanted ops s.tmps o = true
  · rw [if_pos hw] at hs
    simp only [hw, if_true]
    split at hs
    · rename_i act hact
      split at hs
      · rename_i v h1 hr
        cases hs
        obtain ⟨a1, a2, a3⟩ := act_holes hr hn
        simp only [hact, a2, a3]
        exact ⟨a1, trivial, trivial⟩
      · cases hs
    · cases hs
  · rw [if_neg hw] at hs
    cases hs
    simp [hw]

theorem rtrace_runs {n : Nat} {all : List FP} : ∀ (c a : Nat) {s s' : ASt} {fps : List FP}, rtrace P M K cl ops (List.range' a c) s = some (s', fps) → s'.heap.length ≤ n → (∀ (j : Nat), fps[j]? = all[a + j]? ∨ fps.length ≤ j) →
    fps.length = c ∧ s.heap.length ≤ s'.heap.length ∧ Runs P M K cl ops (fpAt all) (List.range' a c) ⟨s.tmps, holes s.heap n⟩ ⟨s'.tmps, holes s'.heap n⟩ ∧
    (∀ j, j < c → s.heap.length ≤ (fpAt all (a + j)).b ∧ (fpAt all (a + j)).b + (fpAt all (a + j)).k ≤ s'.heap.length) ∧
    (∀ i j, i < j → j < c → (fpAt all (a + i)).b + (fpAt all (a + i)).k ≤ (fpAt all (a + j)).b) := by
  intro c
  induction c with
  | zero => intro a s s' fps h hn _; cases h; exact ⟨rfl, Nat.le_refl _, .nil _, fun j hj => by omega, fun i j _ hj => by omega⟩
  | succ c ih =>
    intro a s s' fps h hn hall
    rw [List.range'_succ] at h
    simp only [rtrace] at h
    split at h
    · cases h
    · rename_i o ho
      split at h
      · rename_i s1 h1
        split at h
        · rename_i s2 fps2 h2
          cases h
          obtain ⟨b1, b2, b3, b4, b5⟩ := ih (a + 1) h2 hn fun j => by
            rcases hall (j + 1) with h3 | h3
            · left; rw [show a + 1 + j = a + (j + 1) by omega, ← h3]; simp
            · right; simp at h3; omega
          obtain ⟨c1, c2, c3⟩ := ostep_holes (n := n) h1 (by omega)
          have hfa : fpAt all a = ofp P M K cl ops s.heap.length o s := by
            rcases hall 0 with h3 | h3
            · simp only [Nat.add_zero, List.getElem?_cons_zero] at h3
              simp [fpAt, List.getD_eq_getElem?_getD, ← h3]
            · simp at h3
          have hb : (fpAt all a).b = s.heap.length := by rw [hfa]; exact ofp_b _ _ _
          refine ⟨by simp [b1], by omega, ?_, fun j hj => ?_, fun i j hij hj => ?_⟩
          · rw [List.range'_succ]
            refine .cons ⟨o, ho, ?_, ?_⟩ b3
            · rw [hb]; exact c2
            · rw [hb, hfa]; exact c3
          · cases j with
            | zero => rw [Nat.add_zero, hb, hfa]; omega
            | succ j => have := b4 j (by omega); rw [show a + (j + 1) = a + 1 + j by omega]; omega
          · cases i with
            | zero =>
              have := b4 (j - 1) (by omega)
              rw [show a + 1 + (j - 1) = a + j by omega] at this
              rw [Nat.add_zero, hb, hfa]; omega
            | succ i =>
              have := b5 i (j - 1) (by omega) (by omega)
              rw [show a + 1 + (j - 1) = a + j by omega, show a + 1 + i = a + (i + 1) by omega] at this
              exact this
        · cases h
      · cases h

theorem ext_holes (m : Pl) (h : AHeap) (n : Nat) : Ext m h m (holes h n) := fun i o ho => ⟨o, by rw [hget_holes]; exact ho, rfl, rfl, rfl, Nat.le_refl _, fun _ => rfl⟩
theorem ext_holes' (m : Pl) (h : AHeap) (n : Nat) : Ext m (holes h n) m h := fun i o ho => ⟨o, by rw [hget_holes] at ho; exact ho, rfl, rfl, rfl, Nat.le_refl _, fun _ => rfl⟩

theorem HRel.holes {m : Pl} {h : AHeap} {w : World} (r : HRel M m h w) (n : Nat) : HRel M m (holes h n) w := by
  refine ⟨fun i j oi oj hi hj e => ?_, fun i o ho => ?_, fun b off v hv => ?_, fun b x hx => ?_⟩
  · rw [hget_holes] at hi hj; exact r.inj i j oi oj hi hj e
  · rw [hget_holes] at ho
    obtain ⟨cs, t, fz, x⟩ := r.obj i o ho
    exact ⟨cs, t, fz, x.blk, x.size, x.len, x.free, x.one, x.flat, fun j u v hu hv => (x.rel j u v hu hv).mono (ext_holes m h n)⟩
  · obtain ⟨h1, h2, h3, h4⟩ := r.ro b off v hv
    exact ⟨h1, h2, h3, fun i o hi => by rw [hget_holes] at hi; exact h4 i o hi⟩
  · obtain ⟨h1, h4⟩ := r.big b x hx
    exact ⟨h1, fun i o hi => by rw [hget_holes] at hi; exact h4 i o hi⟩

theorem Tr.of_holes {m m' : Pl} {h h' : AHeap} {w w' : World} {n : Nat} (t : Tr M m (Ab.holes h n) w m' h' w') : Tr M m h w m' h' w' where
  rel := t.rel
  ext := (ext_holes m h n).trans t.ext
  os := t.os
  tape := t.tape
  output := t.output
  size := t.size
  frame := fun b hb hn => t.frame b hb fun i o hi => hn i o (by rw [hget_holes] at hi; exact hi)
  own := fun i o hi => by
    rcases t.own i o hi with h1 | ⟨j, p, hj, h1⟩
    · exact .inl h1
    · exact .inr ⟨j, p, by rw [hget_holes] at hj; exact hj, h1⟩

theorem Big.region_draw (hK : K.Sound P M) (hmix : P.follows .mixedOrders = true) (cl : List Nat → List Nat) {id : Nat} {ops : Array Oper} {s s' : ASt} (h : rdraw P M K cl ops s = some s') : Big P M (.region id ops true) s .normal s' := fun m a w r ht hd => by
  unfold rdraw at h
  split at h
  · rename_i s1 fps htr
    split at h
    · rename_i hok
      cases h
      simp only [Bool.and_eq_true] at hok
      rw [List.range_eq_range'] at htr
      obtain ⟨b1, b2, b3, b4, b5⟩ := rtrace_runs (n := s'.heap.length) (all := fps) ops.size 0 htr (Nat.le_refl _) fun j => .inl (by rw [Nat.zero_add])
      simp only [Nat.zero_add] at b4 b5
      have hself : holes s'.heap s'.heap.length = s'.heap := by simp [holes]
      rw [hself, ← List.range_eq_range'] at b3
      refine wp_region_any hmix ?_
      refine any_sound hK hok.1 hok.2 (n := s'.heap.length) (se := s') (fun i hi => (b4 i hi).2) (fun i j hij hj => b5 i j hij hj) ops.size (Array.replicate ops.size false) (List.range ops.size) (m := m) (by simp) (by simp) (fun j => ?_) (List.pairwise_lt_range) (fun j o hj => ?_) b3 (holes_length b2) (fun j hj k hk => ?_) ((r.drawn _).holes _) ?_ hd ?_
      · rw [List.mem_range]
        constructor
        · intro hj; exact ⟨hj, by simp [hj]⟩
        · exact fun hj => hj.1
      · rw [Array.getD_eq_getD_getElem?, Array.getElem?_replicate] at hj
        split at hj <;> simp at hj
      · rw [hget_holes]
        have := (b4 j (List.mem_range.1 hj)).1
        simp [hget, List.getElem?_eq_none (show s.heap.length ≤ (fpAt fps j).b + k by omega)]
      · exact ht.mono (ext_holes m s.heap _)
      · intro m' a' w' htr' ht' hd'
        exact ⟨rfl, m', (Tr.drawn r (w.drawn + 1)).trans htr'.of_holes, ht', hd'⟩
    · cases h
  · cases h

end

/-- From the numbers that a value names on through the objects that hold addresses. -/
def expand (h : AHeap) (l : List Nat) : List Nat := l.foldl (fun acc i => match hget h i with
  | some o => if o.flat then acc else idsL acc o.cells
  | none => acc) l

def clos (h : AHeap) : Nat → List Nat → List Nat
  | 0, l => l
  | n + 1, l => let l' := expand h l; if l'.length = l.length then l else clos h n l'

def rgn (P : Program) (M : Mem) (K : Fns) (ops : Array Oper) (draw : Bool) (s : ASt) : Option ASt :=
  if draw then rdraw P M K (clos s.heap s.heap.length) ops s else rruns P M K (clos s.heap s.heap.length) ops (List.range ops.size) s

/-- Code, evaluated. -/
def ev (P : Program) (M : Mem) (K : Fns) : Nat → Code → ASt → Option (AExit × ASt)
  | 0, _, _ => none
  | n + 1, c, s => match c with
    | .skip => some (.normal, s)
    | .label _ => some (.normal, s)
    | .exit id => some (.exit id, s)
    | .ret => some (.ret, s)
    | .region _ ops draw => match rgn P M K ops draw s with
      | some s' => some (.normal, s')
      | none => none
    | .seq x y => match ev P M K n x s with
      | some (.normal, s1) => ev P M K n y s1
      | r => r
    | .cond c x y => match aev s.tmps c with
      | some (.bool b) => match b with
        | true => ev P M K n x s
        | false => ev P M K n y s
      | _ => none
    | .block id c => match ev P M K n c s with
      | some (.exit i, s1) => if i = id then some (.normal, s1) else some (.exit i, s1)
      | r => r
    | .loop c => match ev P M K n c s with
      | some (.normal, s1) => ev P M K n (.loop c) s1
      | r => r
    | _ => none

theorem Big.loop_one {P : Program} {M : Mem} {c : Code} {s s1 : ASt} {e : AExit} (he : e ≠ .normal) (h : Big P M c s e s1) : Big P M (.loop c) s e s1 :=
  Big.loop he (fun _ => s) 0 (fun k hk => by omega) h

theorem ev_sound {P : Program} {M : Mem} {K : Fns} (hK : K.Sound P M) (hmix : P.follows .mixedOrders = true) : ∀ (n : Nat) (c : Code) {s s' : ASt} {e : AExit}, ev P M K n c s = some (e, s') →
    (Big P M c s e s') ∧ ∀ c', c = .loop c' → e ≠ .normal ∧ ∃ (st : Nat → ASt) (k : Nat), st 0 = s ∧ (∀ j, j < k → Big P M c' (st j) .normal (st (j + 1))) ∧ Big P M c' (st k) e s' := by
  intro n
  induction n with
  | zero => intro c s s' e h; cases h
  | succ n ih =>
    intro c s s' e h
    cases c <;> simp only [ev] at h
    case skip => cases h; exact ⟨.skip, fun c' hc => by cases hc⟩
    case label => cases h; exact ⟨.label, fun c' hc => by cases hc⟩
    case exit => cases h; exact ⟨.exit, fun c' hc => by cases hc⟩
    case ret => cases h; exact ⟨.ret, fun c' hc => by cases hc⟩
    case region id ops draw =>
      refine ⟨?_, fun c' hc => by cases hc⟩
      split at h
      · rename_i s1 hs
        cases h
        cases draw with
        | true => exact Big.region_draw hK hmix _ hs
        | false => exact Big.region hK _ hs
      · cases h
    case seq x y =>
      refine ⟨?_, fun c' hc => by cases hc⟩
      split at h
      · rename_i s1 h1
        exact Big.seq (ih x h1).1 (ih y h).1
      · rename_i hne
        cases e with
        | normal => exact absurd h (hne _)
        | exit i => exact Big.seq_out (by simp) (ih x h).1
        | ret => exact Big.seq_out (by simp) (ih x h).1
    case cond c x y =>
      refine ⟨?_, fun c' hc => by cases hc⟩
      split at h
      · rename_i b hb
        split at h
        · exact Big.cond hb (ih x h).1
        · exact Big.cond hb (ih y h).1
      · cases h
    case block id c =>
      refine ⟨?_, fun c' hc => by cases hc⟩
      split at h
      · rename_i i s1 h1
        have hb := Big.block (id := id) (ih c h1).1
        simp only at hb
        split at h
        · rename_i hi
          cases h
          rw [if_pos hi] at hb
          exact hb
        · rename_i hi
          cases h
          rw [if_neg hi] at hb
          exact hb
      · rename_i hne
        have hb := Big.block (id := id) (ih c h).1
        cases e with
        | normal => exact hb
        | ret => exact hb
        | exit i => exact absurd h (hne _ _)
    case loop c =>
      have key : e ≠ .normal ∧ ∃ (st : Nat → ASt) (k : Nat), st 0 = s ∧ (∀ j, j < k → Big P M c (st j) .normal (st (j + 1))) ∧ Big P M c (st k) e s' := by
        split at h
        · rename_i s1 h1
          obtain ⟨hne, st, k, h2, h3, h4⟩ := (ih (.loop c) h).2 c rfl
          refine ⟨hne, fun j => match j with | 0 => s | j + 1 => st j, k + 1, rfl, fun j hj => ?_, h4⟩
          cases j with
          | zero => simp only [h2]; exact (ih c h1).1
          | succ j => exact h3 j (by omega)
        · rename_i hne
          refine ⟨fun he => ?_, fun _ => s, 0, rfl, fun j hj => by omega, (ih c h).1⟩
          subst he
          exact absurd h (hne _)
      obtain ⟨hne, st, k, h2, h3, h4⟩ := key
      refine ⟨?_, fun c' hc => by cases hc; exact ⟨hne, st, k, h2, h3, h4⟩⟩
      rw [← h2]
      exact Big.loop hne st k h3 h4
    all_goals cases h

end Go.Ab

namespace Go.Ab

/-- What a variable of results holds. -/
def ares (P : Program) (M : Mem) (s : ASt) : List ResultVar → Option (List Value)
  | [] => some []
  | .tmp t :: r => match ares P M s r with
    | some vs => some (s.tmps.getD t undef :: vs)
    | none => none
  | .cell a t :: r => match s.tmps.getD a undef with
    | .pointer (some ad) => match (loadAct P M t ad).run 0 s.heap, ares P M s r with
      | some (v, _), some vs => some (v :: vs)
      | _, _ => none
    | _ => none

def tup : List Value → Value
  | [v] => v
  | vs => .tuple ⟨vs⟩

theorem ares_sound {P : Program} {M : Mem} {m : Pl} {s : ASt} {w : World} {a : Go.Act} (r : HRel M m s.heap w) (ht : TRel m s.heap s.tmps a.tmps) : ∀ (rs : List ResultVar) (us : List Value), ares P M s rs = some us →
    ∃ vs : List Value, (rs.mapM fun x => (match x with
      | .tmp t => pure (a.tmps.getD t undef)
      | .cell ad t => do loadVar t (← asAddr (a.tmps.getD ad undef)) : Sem Value)).run P w = .ok vs w ∧ LRel m s.heap us vs := by
  have get : ∀ t, VRel m s.heap (s.tmps.getD t undef) (a.tmps.getD t undef) := fun t => aev_sound (x := .tmp t) ht rfl
  intro rs
  induction rs with
  | nil => intro us h; cases h; exact ⟨[], rfl, .nil _ _⟩
  | cons x rs ih =>
    intro us h
    cases x with
    | tmp t =>
      simp only [ares] at h
      split at h
      · rename_i vs hvs
        cases h
        obtain ⟨ws, hr, hl⟩ := ih vs hvs
        refine ⟨a.tmps.getD t undef :: ws, ?_, .cons (get t) hl⟩
        rw [List.mapM_cons]
        simp only [Sem.run_bind, Sem.run_pure, Result.andThen_ok, hr]
      · cases h
    | cell ad t =>
      simp only [ares] at h
      split at h
      · rename_i p hp
        split at h
        · rename_i v h1 vs hv hvs
          cases h
          obtain ⟨ws, hr, hl⟩ := ih vs hvs
          have hg := get ad
          rw [hp] at hg
          obtain ⟨p', hp'⟩ := hg.ptr_inv
          rw [hp'] at hg
          obtain ⟨_, u, hrun, hu⟩ := loadAct_value (P := P) r hg hv
          refine ⟨u :: ws, ?_, .cons hu hl⟩
          rw [List.mapM_cons]
          have hA : (asAddr (a.tmps.getD ad undef)).run P w = .ok p' w := by rw [hp']; rfl
          simp only [Sem.run_bind, hA, Sem.run_pure, Result.andThen_ok, hrun]
          rw [hr]
          rfl
        · cases h
      · cases h

theorem results_sound {P : Program} {M : Mem} {m : Pl} {s : ASt} {w : World} {a : Go.Act} (r : HRel M m s.heap w) (ht : TRel m s.heap s.tmps a.tmps) {fn : Func} {us : List Value} (h : ares P M s fn.results.toList = some us) :
    ∃ v, (results fn a.tmps).run P w = .ok v w ∧ VRel m s.heap (tup us) v := by
  obtain ⟨vs, hrun, hl⟩ := ares_sound r ht _ _ h
  have hm : (results fn a.tmps).run P w = .ok (if h : vs.toArray.size = 1 then vs.toArray[0] else .tuple vs.toArray) w := by
    unfold results
    rw [Array.mapM_eq_mapM_toList]
    simp only [Sem.run_bind, Sem.run_map]
    refine Eq.trans (congrArg (fun r : Result (List Value) => Result.andThen (Result.andThen r fun a w' => .ok a.toArray w') fun a w' => .ok (if h : a.size = 1 then a[0] else Value.tuple a) w') (?_ : _ = Result.ok vs w)) rfl
    exact hrun
  refine ⟨_, hm, ?_⟩
  cases us with
  | nil =>
    cases vs with
    | nil => exact .tuple rfl fun i u v hu => by simp at hu
    | cons v vs => have := hl.1; simp at this
  | cons u us =>
    cases vs with
    | nil => have := hl.1; simp at this
    | cons v vs =>
      cases us with
      | nil =>
        cases vs with
        | nil => simpa [tup] using hl.head
        | cons v vs => have := hl.1; simp at this
      | cons u2 us =>
        cases vs with
        | nil => have := hl.1; simp at this
        | cons v2 vs =>
          have hs : ¬ (v :: v2 :: vs).toArray.size = 1 := by simp
          rw [dif_neg hs]
          exact .tuple (by simpa using hl.1) fun i p q hp hq => hl.2 i p q (by simpa using hp) (by simpa using hq)

/-- At the end: the results; of the objects those that were handed in, and those that are kept. -/
def fin (P : Program) (M : Mem) (rv : List ResultVar) (k : Nat) (keep : List Nat) (s : ASt) : Option (Value × List AObj × List AObj) :=
  match ares P M s rv with
  | some us => if nodupB (List.range k ++ keep) then match gather s.heap (List.range k ++ keep) with
    | some objs => match renOs (idx (List.range k ++ keep)) objs, renV (idx (List.range k ++ keep)) (tup us) with
      | some lo, some v => some (v, lo.take k, lo.drop k)
      | _, _ => none
    | none => none
    else none
  | none => none

theorem acalls_of_big {P : Program} {M : Mem} {f : FuncId} {fn : Func} {c : Code} (hf : P.funcs[f]? = some fn) (hb : fn.body = some c) {args : List Value} {os : List AObj} {e : AExit} {s' : ASt}
    (big : Big P M c ⟨args ++ List.replicate (fn.ntmps - args.length) undef, os.map some⟩ e s') (he : ∀ i, e ≠ .exit i) {keep : List Nat} {v : Value} {os' ns : List AObj}
    (hfin : fin P M fn.results.toList os.length keep s' = some (v, os', ns)) : ACalls P M f args os v os' ns := by
  unfold fin at hfin
  split at hfin
  · rename_i us hus
    split at hfin
    · rename_i hnd
      have hd := nodupB_sound hnd
      split at hfin
      · rename_i objs hg
        split at hfin
        · rename_i lo v1 hlo hv
          cases hfin
          obtain ⟨g1, g2⟩ := gather_get hg
          obtain ⟨l1, l2⟩ := renOs_get hlo
          have hLl : (List.range os.length ++ keep).length = os.length + keep.length := by simp
          have hlen : os.length ≤ lo.length := by omega
          refine ⟨by simp; omega, fun m w args' r hargs => ?_⟩
          refine calls_of_wp hf hb (wp_mono (big m _ w r ?_ rfl) ?_)
          · have hal := hargs.1
            simp only [TRel, Array.toList_append, Array.toList_replicate]
            have hsz : fn.ntmps - args'.size = fn.ntmps - args.length := by simp at hal; omega
            rw [hsz]
            refine LRel.append hargs (LRel.same ((groundL_iff _).2 fun z hz => ?_))
            rw [List.mem_replicate] at hz
            rw [hz.2]; rfl
          · rintro e1 a1 w1 ⟨rfl, m1, htr, ht1, hd1⟩
            obtain ⟨v', hrun, hvr⟩ := results_sound htr.rel ht1 hus
            obtain ⟨hr1, hemb⟩ := restrict htr.rel hd hg hlo
            have hR : ∃ v'' m', Ending.returned v' = .returned v'' ∧ Tr M m (os.map some) w m' ((lo.take os.length ++ lo.drop os.length).map some) w1 ∧ VRel m' ((lo.take os.length ++ lo.drop os.length).map some) v v'' := by
              rw [List.take_append_drop]
              refine ⟨v', _, rfl, ⟨hr1, fun i o ho => ?_, htr.os, htr.tape, htr.output, htr.size, htr.frame, fun i p hp => ?_⟩, hvr.ren hemb hv⟩
              · obtain ⟨o', ho', e1, e2, e3, e4, e5⟩ := htr.ext i o ho
                rw [hget_map] at ho
                have hi : i < os.length := (List.getElem?_eq_some_iff.1 ho).1
                have hLi : (List.range os.length ++ keep)[i]? = some i := by
                  rw [List.getElem?_append_left (by simpa using hi), List.getElem?_range hi]
                have hil : i < lo.length := by omega
                obtain ⟨q, hq1, hq2⟩ := l2 i lo[i] (List.getElem?_eq_getElem hil)
                obtain ⟨q', hq3, hq4⟩ := g2 i i hLi
                rw [hq1] at hq3; cases hq3
                rw [ho'] at hq4; cases hq4
                have hp := renO_props hq2
                refine ⟨lo[i], by rw [hget_map]; exact List.getElem?_eq_getElem hil, by rw [hp.1, e1], by rw [hp.2.1, e2], by rw [hp.2.2.1, e3], by rw [hp.2.2.2]; exact e4, fun hl => ?_⟩
                have := e5 (by rw [← hp.2.2.2]; exact hl)
                rw [List.getD_eq_getElem?_getD, hLi]
                exact this
              · rw [hget_map] at hp
                obtain ⟨q, hq1, hq2⟩ := l2 i p hp
                have hil : i < (List.range os.length ++ keep).length := by have := (List.getElem?_eq_some_iff.1 hq1).1; omega
                obtain ⟨q', hq3, hq4⟩ := g2 i _ (List.getElem?_eq_getElem hil)
                rw [List.getD_eq_getElem?_getD, List.getElem?_eq_getElem hil]
                exact htr.own _ q' hq4
            cases e with
            | normal => exact ⟨hd1, v', hrun, hR⟩
            | ret => exact ⟨hd1, v', hrun, hR⟩
            | exit i => exact absurd rfl (he i)
        · cases hfin
      · cases hfin
    · cases hfin
  · cases hfin

/-- A function's body, evaluated. -/
def evF (P : Program) (M : Mem) (K : Fns) (fuel : Nat) (fn : Func) (args : List Value) (os : List AObj) (keep : List Nat) : Option (Value × List AObj × List AObj) :=
  match fn.body with
  | some c => match ev P M K fuel c ⟨args ++ List.replicate (fn.ntmps - args.length) undef, os.map some⟩ with
    | some (.exit _, _) => none
    | some (_, s') => fin P M fn.results.toList os.length keep s'
    | none => none
  | none => none

theorem acalls_of_evF {P : Program} {M : Mem} {K : Fns} (hK : K.Sound P M) (hmix : P.follows .mixedOrders = true) {f : FuncId} {fn : Func} (hf : P.funcs[f]? = some fn) {fuel : Nat} {args : List Value} {os : List AObj} {keep : List Nat} {v : Value} {os' ns : List AObj}
    (h : evF P M K fuel fn args os keep = some (v, os', ns)) : ACalls P M f args os v os' ns := by
  unfold evF at h
  split at h
  · rename_i c hc
    split at h
    · cases h
    · rename_i e s' hne hev
      have hb := (ev_sound hK hmix fuel c hev).1
      exact acalls_of_big hf hc hb (fun i hi => hne i hi) h
    · cases h
  · cases h

/-- A known function. -/
structure Sum where
  f : FuncId
  ro : Bool
  S : List Value → List AObj → Option (Value × List AObj × List AObj)
  C : List Value → List AObj → List (Bool × Bool) := fun _ _ => []

def Sum.Sound (P : Program) (M : Mem) (s : Sum) : Prop := ∀ args os v os' ns, s.S args os = some (v, os', ns) → Answers P M s.f args os v os' ns ∧ (s.ro = true → os' = os)

def sumFind (l : List Sum) (f : FuncId) : Option Sum :=
  match l with
  | [] => none
  | s :: r => if Nat.beq s.f f then some s else sumFind r f

def fns (l : List Sum) : Fns where
  F := fun f args os => match sumFind l f with
    | some s => s.S args os
    | none => none
  ro := fun f => match sumFind l f with
    | some s => s.ro
    | none => false

theorem sumFind_mem : ∀ {l : List Sum} {f : FuncId} {s : Sum}, sumFind l f = some s → s ∈ l ∧ s.f = f := by
  intro l
  induction l with
  | nil => intro f s h; cases h
  | cons x r ih =>
    intro f s h
    simp only [sumFind] at h
    split at h
    · rename_i he
      cases h
      exact ⟨by simp, Nat.eq_of_beq_eq_true he⟩
    · obtain ⟨h1, h2⟩ := ih h
      exact ⟨by simp [h1], h2⟩

theorem fns_sound {P : Program} {M : Mem} {l : List Sum} (h : ∀ s ∈ l, s.Sound P M) : (fns l).Sound P M := by
  intro f args os v os' ns hF
  simp only [fns] at hF ⊢
  split at hF
  · rename_i s hs
    obtain ⟨h1, rfl⟩ := sumFind_mem hs
    obtain ⟨h4, h5⟩ := h s h1 _ _ _ _ _ hF
    exact ⟨h4, fun hr => h5 hr⟩
  · cases hF

theorem enters_of {P : Program} {f : FuncId} {fn : Func} (hf : P.funcs[f]? = some fn) (hn : (fn.name == "runtime.NumGoroutine") = false) (hb : fn.body.isSome = true) : Enters P f := ⟨fn, hf, hn, hb⟩

end Go.Ab

namespace Go.Ab

def memN (d : Nat) : List Nat → Bool
  | [] => false
  | x :: r => if Nat.beq x d then true else memN d r

/-- What was foretold and what came. -/
abbrev Pins := List (Bool × Bool)

def Held (p : Pins) : Prop := ∀ x ∈ p, x.1 = x.2

theorem Held.left {p q : Pins} (h : Held (p ++ q)) : Held p := fun x hx => h x (List.mem_append.2 (.inl hx))
theorem Held.right {p q : Pins} (h : Held (p ++ q)) : Held q := fun x hx => h x (List.mem_append.2 (.inr hx))
theorem held_nil : Held [] := fun x hx => by cases hx

def pin (sym : List Nat) (d : Option Tmp) (s : ASt) (orc : List Bool) : ASt × List Bool × Pins :=
  match d with
  | none => (s, orc, [])
  | some d => if memN d sym then match s.tmps[d]? with
      | some (.bool b) => match orc with
        | x :: r => (⟨s.tmps.set d (.bool x), s.heap⟩, r, [(b, x)])
        | [] => (s, [], [])
      | _ => (s, orc, [])
    else (s, orc, [])

theorem list_set_self {α : Type} {l : List α} {i : Nat} {x : α} (h : l[i]? = some x) : l.set i x = l := by
  apply List.ext_getElem?
  intro j
  rw [List.getElem?_set]
  split
  · rename_i e
    subst e
    have := (List.getElem?_eq_some_iff.1 h).1
    rw [if_pos this, h]
  · rfl

theorem pin_eq {sym : List Nat} {d : Option Tmp} {s s' : ASt} {orc r : List Bool} {p : Pins} (h : pin sym d s orc = (s', r, p)) (hp : Held p) : s' = s := by
  unfold pin at h
  split at h
  · cases h; rfl
  · split at h
    · split at h
      · rename_i b hb
        split at h
        · rename_i x r'
          cases h
          have := hp (b, x) (by simp)
          simp only at this
          subst this
          simp [list_set_self hb]
        · cases h; rfl
      · cases h; rfl
    · cases h; rfl

section
variable (P : Program) (M : Mem) (K : Fns) (sym : List Nat)

def rrunsO (cl : List Nat → List Nat) (ops : Array Oper) : List Nat → ASt → List Bool → Option (ASt × List Bool × Pins)
  | [], s, orc => some (s, orc, [])
  | i :: l, s, orc => match ops[i]? with
    | none => rrunsO cl ops l s orc
    | some o => match ostep P M K cl ops s.heap.length o s with
      | some s' => match pin sym o.dst s' orc with
        | (s1, o1, p1) => match rrunsO cl ops l s1 o1 with
          | some (s2, o2, p2) => some (s2, o2, p1 ++ p2)
          | none => none
      | none => none

def rtraceO (cl : List Nat → List Nat) (ops : Array Oper) : List Nat → ASt → List Bool → Option (ASt × List FP × List Bool × Pins)
  | [], s, orc => some (s, [], orc, [])
  | i :: l, s, orc => match ops[i]? with
    | none => none
    | some o => match ostep P M K cl ops s.heap.length o s with
      | some s' => match pin sym o.dst s' orc with
        | (s1, o1, p1) => match rtraceO cl ops l s1 o1 with
          | some (s2, fps, o2, p2) => some (s2, ofp P M K cl ops s.heap.length o s :: fps, o2, p1 ++ p2)
          | none => none
      | none => none

def rdrawO (cl : List Nat → List Nat) (ops : Array Oper) (s : ASt) (orc : List Bool) : Option (ASt × List Bool × Pins) :=
  match rtraceO P M K sym cl ops (List.range ops.size) s orc with
  | some (s', fps, o1, p1) => if okEdges ops && okPairs ops (befs ops.toList []) fps then some (s', o1, p1) else none
  | none => none

def rgnO (ops : Array Oper) (draw : Bool) (s : ASt) (orc : List Bool) : Option (ASt × List Bool × Pins) :=
  if draw then rdrawO P M K sym (clos s.heap s.heap.length) ops s orc else rrunsO P M K sym (clos s.heap s.heap.length) ops (List.range ops.size) s orc

/-- Code, evaluated; the answers of the operations with these numbers are foretold. -/
def evO : Nat → Code → ASt → List Bool → Option (AExit × ASt × List Bool × Pins)
  | 0, _, _, _ => none
  | n + 1, c, s, orc => match c with
    | .skip => some (.normal, s, orc, [])
    | .label _ => some (.normal, s, orc, [])
    | .exit id => some (.exit id, s, orc, [])
    | .ret => some (.ret, s, orc, [])
    | .region _ ops draw => match rgnO P M K sym ops draw s orc with
      | some (s', o1, p1) => some (.normal, s', o1, p1)
      | none => none
    | .seq x y => match evO n x s orc with
      | some (.normal, s1, o1, p1) => match evO n y s1 o1 with
        | some (e, s2, o2, p2) => some (e, s2, o2, p1 ++ p2)
        | none => none
      | r => r
    | .cond c x y => match aev s.tmps c with
      | some (.bool b) => match b with
        | true => evO n x s orc
        | false => evO n y s orc
      | _ => none
    | .block id c => match evO n c s orc with
      | some (.exit i, s1, o1, p1) => if i = id then some (.normal, s1, o1, p1) else some (.exit i, s1, o1, p1)
      | r => r
    | .loop c => match evO n c s orc with
      | some (.normal, s1, o1, p1) => match evO n (.loop c) s1 o1 with
        | some (e, s2, o2, p2) => some (e, s2, o2, p1 ++ p2)
        | none => none
      | r => r
    | _ => none
end

section
variable {P : Program} {M : Mem} {K : Fns} {sym : List Nat}

theorem rrunsO_eq {cl : List Nat → List Nat} {ops : Array Oper} : ∀ (l : List Nat) {s s' : ASt} {orc r : List Bool} {p : Pins}, rrunsO P M K sym cl ops l s orc = some (s', r, p) → Held p → rruns P M K cl ops l s = some s' := by
  intro l
  induction l with
  | nil => intro s s' orc r p h _; cases h; rfl
  | cons i l ih =>
    intro s s' orc r p h hp
    simp only [rrunsO] at h
    simp only [rruns]
    split at h
    · rename_i ho
      try simp only [ho]
      exact ih h hp
    · rename_i o ho
      try simp only [ho]
      split at h
      · rename_i s0 h0
        try simp only [h0]
        split at h
        · rename_i s2 o2 p2 h2
          cases h
          rw [pin_eq (s' := (pin sym o.dst s0 orc).1) rfl hp.left] at h2
          exact ih h2 hp.right
        · cases h
      · cases h

theorem rtraceO_eq {cl : List Nat → List Nat} {ops : Array Oper} : ∀ (l : List Nat) {s s' : ASt} {orc r : List Bool} {p : Pins} {fps : List FP}, rtraceO P M K sym cl ops l s orc = some (s', fps, r, p) → Held p → rtrace P M K cl ops l s = some (s', fps) := by
  intro l
  induction l with
  | nil => intro s s' orc r p fps h _; cases h; rfl
  | cons i l ih =>
    intro s s' orc r p fps h hp
    simp only [rtraceO] at h
    simp only [rtrace]
    split at h
    · cases h
    · rename_i o ho
      try simp only [ho]
      split at h
      · rename_i s0 h0
        try simp only [h0]
        split at h
        · rename_i s2 fps2 o2 p2 h2
          cases h
          rw [pin_eq (s' := (pin sym o.dst s0 orc).1) rfl hp.left] at h2
          rw [ih h2 hp.right]
        · cases h
      · cases h

theorem rgnO_eq {ops : Array Oper} {draw : Bool} {s s' : ASt} {orc r : List Bool} {p : Pins} (h : rgnO P M K sym ops draw s orc = some (s', r, p)) (hp : Held p) : rgn P M K ops draw s = some s' := by
  unfold rgnO at h
  unfold rgn
  cases draw with
  | true =>
    simp only [if_true] at h ⊢
    unfold rdrawO at h
    unfold rdraw
    split at h
    · rename_i s1 fps o1 p1 h1
      split at h
      · rename_i hok
        cases h
        rw [rtraceO_eq _ h1 hp]
        simp only [hok, if_true]
      · cases h
    · cases h
  | false =>
    simp only [Bool.false_eq_true, if_false] at h ⊢
    exact rrunsO_eq _ h hp

theorem evO_eq : ∀ (n : Nat) (c : Code) {s s' : ASt} {orc r : List Bool} {p : Pins} {e : AExit}, evO P M K sym n c s orc = some (e, s', r, p) → Held p → ev P M K n c s = some (e, s') := by
  intro n
  induction n with
  | zero => intro c s s' orc r p e h; cases h
  | succ n ih =>
    intro c s s' orc r p e h hp
    cases c <;> simp only [evO] at h <;> simp only [ev]
    case skip => cases h; rfl
    case label => cases h; rfl
    case exit => cases h; rfl
    case ret => cases h; rfl
    case region id ops draw =>
      split at h
      · rename_i s1 o1 p1 h1
        cases h
        rw [rgnO_eq h1 hp]
      · cases h
    case seq x y =>
      split at h
      · rename_i s1 o1 p1 h1
        split at h
        · rename_i e2 s2 o2 p2 h2
          cases h
          rw [ih x h1 hp.left]
          exact ih y h2 hp.right
        · cases h
      · rename_i hne
        rw [ih x h hp]
        cases e with
        | normal => exact absurd h (hne _ _ _)
        | exit i => rfl
        | ret => rfl
    case cond c x y =>
      split at h
      · rename_i b hb
        try simp only [hb]
        split at h
        · exact ih x h hp
        · exact ih y h hp
      · cases h
    case block id c =>
      split at h
      · rename_i i s1 o1 p1 h1
        split at h
        · rename_i hi
          cases h
          rw [ih c h1 hp]
          simp [hi]
        · rename_i hi
          cases h
          rw [ih c h1 hp]
          simp [hi]
      · rename_i hne
        rw [ih c h hp]
        cases e with
        | normal => rfl
        | ret => rfl
        | exit i => exact absurd h (hne _ _ _ _)
    case loop c =>
      split at h
      · rename_i s1 o1 p1 h1
        split at h
        · rename_i e2 s2 o2 p2 h2
          cases h
          rw [ih c h1 hp.left]
          exact ih _ h2 hp.right
        · cases h
      · rename_i hne
        rw [ih c h hp]
        cases e with
        | normal => exact absurd h (hne _ _ _)
        | exit i => rfl
        | ret => rfl
    all_goals cases h
end

/-- A function's body, evaluated, some answers being foretold. -/
def evFO (P : Program) (M : Mem) (K : Fns) (sym : List Nat) (fuel : Nat) (fn : Func) (args : List Value) (os : List AObj) (keep : List Nat) (orc : List Bool) : Option ((Value × List AObj × List AObj) × Pins) :=
  match fn.body with
  | some c => match evO P M K sym fuel c ⟨args ++ List.replicate (fn.ntmps - args.length) undef, os.map some⟩ orc with
    | some (.exit _, _) => none
    | some (_, s', _, p) => match fin P M fn.results.toList os.length keep s' with
      | some r => some (r, p)
      | none => none
    | none => none
  | none => none

theorem evFO_eq {P : Program} {M : Mem} {K : Fns} {sym : List Nat} {fuel : Nat} {fn : Func} {args : List Value} {os : List AObj} {keep : List Nat} {orc : List Bool} {r : Value × List AObj × List AObj} {p : Pins}
    (h : evFO P M K sym fuel fn args os keep orc = some (r, p)) (hp : Held p) : evF P M K fuel fn args os keep = some r := by
  unfold evFO at h
  unfold evF
  split at h
  · rename_i c hc
    try simp only [hc]
    split at h
    · cases h
    · rename_i e s' o1 p1 hne hev
      split at h
      · rename_i r1 hr
        cases h
        rw [evO_eq _ _ hev hp]
        cases e with
        | normal => exact hr
        | ret => exact hr
        | exit i => exact (hne i rfl).elim
      · cases h
    · cases h
  · cases h

theorem acalls_of_evFO {P : Program} {M : Mem} {K : Fns} (hK : K.Sound P M) (hmix : P.follows .mixedOrders = true) {f : FuncId} {fn : Func} (hf : P.funcs[f]? = some fn) {sym : List Nat} {fuel : Nat} {args : List Value} {os : List AObj} {keep : List Nat} {orc : List Bool} {v : Value} {os' ns : List AObj} {p : Pins}
    (h : evFO P M K sym fuel fn args os keep orc = some ((v, os', ns), p)) (hp : Held p) : ACalls P M f args os v os' ns :=
  acalls_of_evF hK hmix hf (evFO_eq h hp)

end Go.Ab

namespace Go.Ab
open Go.ChangeShapes Go.RowKit

/-- Of a world, the cells that hold plain data. -/
def memCells (w : World) (b off : Nat) : Option Value := match w.cell? ⟨b, off, none⟩ with
  | some v => if ground v && v.oneCell' then some v else none
  | none => none
def memOf (w : World) : Mem := ⟨memCells w, fun _ => none⟩

theorem hget_nil (i : Nat) : hget [] i = none := rfl

theorem hrel_memOf (w : World) (m : Pl) : HRel (memOf w) m [] w := by
  refine ⟨fun i j oi oj hi => by simp [hget_nil] at hi, fun i o hi => by simp [hget_nil] at hi, fun b off v hv => ?_, fun b x hx => by cases hx⟩
  replace hv : memCells w b off = some v := hv
  unfold memCells at hv
  split at hv
  · rename_i u hu
    split at hv
    · rename_i hc
      cases hv
      simp only [Bool.and_eq_true] at hc
      exact ⟨hu, hc.1, hc.2, fun i o hi => by simp [hget_nil] at hi⟩
    · cases hv
  · cases hv

theorem below_of_tr {M : Mem} {m m' : Pl} {h' : AHeap} {w w' : World} (t : Tr M m [] w m' h' w') : Below w.heap.size w w' :=
  ⟨t.os, t.tape, t.output, t.size, fun k hk => t.frame k hk fun i o hi => by simp [hget_nil] at hi⟩

theorem calls_law {P : Program} {f : FuncId} {w : World} {args : Array Value} {ns : List AObj} {b : Bool} (h : ACalls P (memOf w) f args.toList [] (.bool b) [] ns) (hg : groundL args.toList = true) :
    Calls P f args w fun e w' => e = .returned (.bool b) ∧ Below w.heap.size w w' := by
  refine (h.2 (fun _ => (0, 0)) w args (hrel_memOf w _) (LRel.same hg)).mono fun e w' ⟨v', m', he, htr, hv⟩ => ?_
  rw [hv.bool] at he
  exact ⟨he, below_of_tr htr⟩

def okTs (P : Program) (ts : List TypeId) : Bool := laidOutB P && ts.all fun t => P.readableRec t && Nat.blt t P.types.size

theorem trodAll_carry {H : Type} {enc : TypeId × Value → H} {P : Program} {W W' : World} (hl : laidOutB P = true) (hb : Below W.heap.size W W') : ∀ (ts : List TypeId) (vs : List Value) (ds : List (DataW H)) (ps : List MemPlace),
    (ts.all fun t => P.readableRec t && Nat.blt t P.types.size) = true → (∀ x ∈ ps, x.block < W.heap.size) → DataW.TrodAll enc P W 0 (fun _ => true) true ts vs ds ps → DataW.TrodAll enc P W' 0 (fun b => decide (b < W.heap.size)) true ts vs ds ps := by
  intro ts
  induction ts with
  | nil => intro vs ds ps _ _ h; cases vs <;> cases ds <;> simp_all [DataW.TrodAll]
  | cons t ts ih =>
    intro vs ds ps hts hlt h
    obtain ⟨v, vs', d, ds', p, q, rfl, rfl, rfl, h1, h2⟩ := trodAll_cons h
    simp only [List.all_cons, Bool.and_eq_true] at hts
    exact trodAll_cons_mk (Below.trod hl hts.1.1 (of_eq_true ((Nat.blt_eq (x := t) (y := P.types.size)) ▸ eq_true hts.1.2)) h1 hb fun x hx => hlt x (List.mem_append.2 (.inl hx)))
      (ih vs' ds' q hts.2 (fun x hx => hlt x (List.mem_append.2 (.inr hx))) h2)

/-- A law's step: whatever its arguments, it returns true, and they read as they did. -/
theorem lifted {C : Checked} {f : FuncId} {fn : Func} {tb : TypeId} (own : ownKnob C.prog.godebug = none) (noInit : C.prog.inits.idxOf? f = none) (hfn : C.prog.funcs[f]? = some fn)
    (hres : fn.resultTypes = #[tb]) (htb : C.prog.underlying tb = some .bool) (hts : okTs C.prog fn.params.toList = true) {s : ChangeSpec} (hvars : s.vars = [])
    (hs : ∀ (H : Type) (ds : List (DataW H)), ds.length = fn.params.size → s.fn H ds = { results := [.lit (.bool true)], args := ds })
    (run : ∀ (W : World) (base : Nat) (H : Type) (enc : TypeId × Value → H) (args : Array Value) (ds : List (DataW H)) (ps : List MemPlace), DataW.TrodAll enc C.prog W 0 (fun _ => true) true fn.params.toList args.toList ds ps →
      (∀ (j : Nat) t v, fn.params[j]? = some t → args[j]? = some v → Value.okWide C.prog W .any base t v) → groundL args.toList = true ∧ ∃ ns, ACalls C.prog (memOf W) f args.toList [] (.bool true) [] ns)
    (os : Os) (started : os.Started) {H : Type} (enc : TypeId × Value → H)
    (witness : ∃ (w : World) (tape : Tape) (i : Input), w.os = os ∧ (w.forCall tape i).Shaped C.prog ∧ i.vars = [] ∧ Input.okWide C.prog (w.forCall tape i) .any w.heap.size f i ∧
      s.pre6 enc C.prog fn [] false (w.forCall tape i).memory i.args ∧ ({} : Assume).holds C.prog (lone (Frame.enter C.prog f i.args .normal) [] (w.forCall tape i))) :
    ReturnsInHanded {} C os f .any (s.pre6 enc C.prog fn [] false) (s.post enc C.prog fn false true false false) := by
  refine returnsInHanded_of_change own started noInit hfn witness ?_
  intro W base args ds gs before hval hW hcnd _
  have hW' := hW
  obtain ⟨p, q, hA, hV, rfl, hfz, hnd⟩ := hW
  rw [hvars] at hV
  obtain ⟨rfl, rfl⟩ := trodVars_none hV
  obtain ⟨hg, ns, hrun⟩ := run W base H enc args ds p hA hval
  simp only [okTs, Bool.and_eq_true] at hts
  have hlen : ∀ (ts : List TypeId) (vs : List Value) (es : List (DataW H)) (ps : List MemPlace), DataW.TrodAll enc C.prog W 0 (fun _ => true) true ts vs es ps → es.length = ts.length := by
    intro ts
    induction ts with
    | nil => intro vs es ps h; cases vs <;> cases es <;> simp_all [DataW.TrodAll]
    | cons t ts ih =>
      intro vs es ps h
      obtain ⟨v, vs', d, ds', p, q, rfl, rfl, rfl, h1, h2⟩ := trodAll_cons h
      simp [ih _ _ _ h2]
  have hds := hlen _ _ _ _ hA
  have hsf := hs H ds (by simpa using hds)
  have hlt : ∀ x ∈ p ++ [], x.block < W.heap.size := fun x hx => hW'.lt x hx
  refine (calls_law hrun hg).mono fun e W' ⟨he, hb⟩ => ⟨_, he, ds, [], p ++ [], [], p, [], hW', ?_, ?_, ?_, hb.frame _, fun h => by cases h⟩
  · rw [hres, List.append_nil, hsf]
    exact trodAll_cons_mk (shut_bool htb _) trodAll_mk0
  · rw [List.append_nil, hsf]
    exact trodAll_carry hts.1 hb _ _ _ _ hts.2 (fun x hx => hlt x (by simpa using hx)) hA
  · rw [hvars, List.append_nil, hsf]
    rfl

end Go.Ab

