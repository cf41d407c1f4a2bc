/- an abstract interpreter for the model's code is sound: values, memory, pure operations, slices.
   Conditions: none. -/
import Derived.Calls
import Derived.Orders
import Derived.Laws.Entries
import Derived.Laws.Cells
import Derived.Laws.StructEq
import Derived.ChangeKeysEq
set_option linter.unusedVariables false
set_option linter.unusedSimpArgs false
namespace Go.Ab

/-- An abstract object: its cells; may it grow (a slice's array), of how many cells an element is; does it hold plain data alone. -/
structure AObj where
  cells : List Value
  grow : Bool
  esz : Nat
  flat : Bool

/-- The objects by their numbers; a number may stand empty. -/
abbrev AHeap := List (Option AObj)

def hget (h : AHeap) (i : Nat) : Option AObj :=
  match h[i]? with
  | some o => o
  | none => none

theorem hget_lt {h : AHeap} {i : Nat} {o : AObj} (ho : hget h i = some o) : i < h.length := by
  rcases Nat.lt_or_ge i h.length with hi | hi
  · exact hi
  · simp [hget, List.getElem?_eq_none hi] at ho

mutual
def ground : Value → Bool
  | .pointer (some a) => a.spot.isNone
  | .slice (some a) _ _ => a.spot.isNone
  | .func _ x y => groundA x && groundA y
  | .iface _ v => ground v
  | .agg cs => groundA cs
  | .tuple cs => groundA cs
  | _ => true
def groundA : Array Value → Bool
  | ⟨l⟩ => groundL l
def groundL : List Value → Bool
  | [] => true
  | v :: r => ground v && groundL r
end

theorem groundL_iff (l : List Value) : groundL l = true ↔ ∀ v ∈ l, ground v = true := by
  induction l with
  | nil => simp [groundL]
  | cons v r ih => simp [groundL, ih]

theorem groundA_iff (a : Array Value) : groundA a = true ↔ ∀ v ∈ a.toList, ground v = true := by
  cases a with
  | mk l => simpa [groundA] using groundL_iff l

theorem groundL_append (a b : List Value) : groundL (a ++ b) = (groundL a && groundL b) := by
  induction a with
  | nil => simp [groundL]
  | cons v r ih => simp [groundL, ih, Bool.and_assoc]

theorem ground_agg_list (l : List Value) : ground (.agg l.toArray) = groundL l := by simp [ground, groundA]

/-- Where the objects lie: block and number of cells of that block. -/
abbrev Pl := Nat → Nat × Nat

/-- 'u' (abstract) stands for 'v' (the model's). An address whose size is no longer the object's says nothing. -/
inductive VRel (m : Pl) (h : AHeap) : Value → Value → Prop
  | same {v : Value} (hg : ground v = true) : VRel m h v v
  | ptr {i off sz : Nat} {o : AObj} {a : Addr} (ho : hget h i = some o) (hle : sz ≤ o.cells.length)
      (hv : sz = o.cells.length → a = ⟨(m i).1, off, none⟩) : VRel m h (.pointer (some ⟨i, off, some sz⟩)) (.pointer (some a))
  | slc {i off sz len cap cap' : Nat} {o : AObj} {a : Addr} (ho : hget h i = some o) (hle : sz ≤ o.cells.length) (hc : len ≤ cap ∧ cap ≤ cap')
      (hv : sz = o.cells.length → (cap' ≠ 0 → a = ⟨(m i).1, off, none⟩) ∧ (o.grow = false → cap' = cap) ∧ (o.grow = true → off + cap' * o.esz ≤ (m i).2)) :
      VRel m h (.slice (some ⟨i, off, some sz⟩) len cap) (.slice (some a) len cap')
  | func {fn : Fn} {x x' y y' : Array Value} (hx : x.size = x'.size) (hpx : ∀ (i : Nat) u v, x[i]? = some u → x'[i]? = some v → VRel m h u v)
      (hy : y.size = y'.size) (hpy : ∀ (i : Nat) u v, y[i]? = some u → y'[i]? = some v → VRel m h u v) : VRel m h (.func fn x y) (.func fn x' y')
  | iface {t : TypeId} {u v : Value} (hu : VRel m h u v) : VRel m h (.iface t u) (.iface t v)
  | agg {x x' : Array Value} (hx : x.size = x'.size) (hpx : ∀ (i : Nat) u v, x[i]? = some u → x'[i]? = some v → VRel m h u v) : VRel m h (.agg x) (.agg x')
  | tuple {x x' : Array Value} (hx : x.size = x'.size) (hpx : ∀ (i : Nat) u v, x[i]? = some u → x'[i]? = some v → VRel m h u v) : VRel m h (.tuple x) (.tuple x')

def ARel (m : Pl) (h : AHeap) (x y : Array Value) : Prop := x.size = y.size ∧ ∀ (i : Nat) u v, x[i]? = some u → y[i]? = some v → VRel m h u v
def LRel (m : Pl) (h : AHeap) (x y : List Value) : Prop := x.length = y.length ∧ ∀ (i : Nat) u v, x[i]? = some u → y[i]? = some v → VRel m h u v

theorem arr_ext_of {x y : Array Value} (hs : x.size = y.size) (hp : ∀ (i : Nat) u v, x[i]? = some u → y[i]? = some v → v = u) : y = x := by
  apply Array.ext hs.symm
  intro i h1 h2
  exact hp i x[i] y[i] (Array.getElem?_eq_getElem h2) (Array.getElem?_eq_getElem h1)

theorem groundA_get {x : Array Value} (h : groundA x = true) {i : Nat} {u : Value} (hu : x[i]? = some u) : ground u = true :=
  (groundA_iff x).1 h u (Array.mem_toList_iff.2 (Array.mem_of_getElem? hu))

theorem groundL_get {x : List Value} (h : groundL x = true) {i : Nat} {u : Value} (hu : x[i]? = some u) : ground u = true :=
  (groundL_iff x).1 h u (List.mem_of_getElem? hu)

theorem VRel.eq {m : Pl} {h : AHeap} {u v : Value} (hr : VRel m h u v) (hg : ground u = true) : v = u := by
  induction hr with
  | same => rfl
  | ptr => simp [ground] at hg
  | slc => simp [ground] at hg
  | func hx _ hy _ ihx ihy =>
    simp only [ground, Bool.and_eq_true] at hg
    rw [arr_ext_of hx fun i u v hu hv => ihx i u v hu hv (groundA_get hg.1 hu), arr_ext_of hy fun i u v hu hv => ihy i u v hu hv (groundA_get hg.2 hu)]
  | iface _ ih => rw [ih (by simpa [ground] using hg)]
  | agg hx _ ihx => rw [arr_ext_of hx fun i u v hu hv => ihx i u v hu hv (groundA_get (by simpa [ground] using hg) hu)]
  | tuple hx _ ihx => rw [arr_ext_of hx fun i u v hu hv => ihx i u v hu hv (groundA_get (by simpa [ground] using hg) hu)]

theorem VRel.int {m : Pl} {h : AHeap} {k : IntKind} {n : Int} {v : Value} (hr : VRel m h (.int k n) v) : v = .int k n := hr.eq rfl
theorem VRel.bool {m : Pl} {h : AHeap} {b : Bool} {v : Value} (hr : VRel m h (.bool b) v) : v = .bool b := hr.eq rfl

theorem VRel.one {m : Pl} {h : AHeap} {u v : Value} (hr : VRel m h u v) : v.oneCell' = u.oneCell' := by
  cases hr <;> rfl

theorem VRel.cells {m : Pl} {h : AHeap} {u v : Value} (hr : VRel m h u v) : ARel m h u.cells v.cells := by
  have one : ∀ {u v : Value}, VRel m h u v → ARel m h #[u] #[v] := fun {u v} hr => ⟨rfl, fun i x y hx hy => by
    cases i with
    | zero => simp at hx hy; subst hx; subst hy; exact hr
    | succ i => simp at hx⟩
  cases hr with
  | agg hx hpx => exact ⟨hx, hpx⟩
  | same hg =>
    refine ⟨rfl, fun i x y hx hy => ?_⟩
    rw [hx] at hy; cases hy
    refine .same ?_
    cases u <;> first
      | (simp only [Value.cells] at hx; exact groundA_get (by simpa [ground] using hg) hx)
      | (simp only [Value.cells] at hx; cases i with
         | zero => simp at hx; subst hx; exact hg
         | succ i => simp at hx)
  | ptr ho hle hv => exact one (.ptr ho hle hv)
  | slc ho hle hc hv => exact one (.slc ho hle hc hv)
  | func hx hpx hy hpy => exact one (.func hx hpx hy hpy)
  | iface hu => exact one (.iface hu)
  | tuple hx hpx => exact one (.tuple hx hpx)

/-- What becomes of the objects: sizes do not fall, and an object that keeps its size keeps its place. -/
def Ext (m : Pl) (h : AHeap) (m' : Pl) (h' : AHeap) : Prop :=
  ∀ (i : Nat) (o : AObj), hget h i = some o → ∃ o', hget h' i = some o' ∧ o'.grow = o.grow ∧ o'.esz = o.esz ∧ o'.flat = o.flat ∧ o.cells.length ≤ o'.cells.length ∧
    (o'.cells.length = o.cells.length → m' i = m i)

theorem Ext.refl (m : Pl) (h : AHeap) : Ext m h m h := fun i o ho => ⟨o, ho, rfl, rfl, rfl, Nat.le_refl _, fun _ => rfl⟩

theorem Ext.trans {m m' m'' : Pl} {h h' h'' : AHeap} (a : Ext m h m' h') (b : Ext m' h' m'' h'') : Ext m h m'' h'' := fun i o ho => by
  obtain ⟨o', ho', h1, h2, h3, h4, h5⟩ := a i o ho
  obtain ⟨o'', ho'', k1, k2, k3, k4, k5⟩ := b i o' ho'
  exact ⟨o'', ho'', k1.trans h1, k2.trans h2, k3.trans h3, Nat.le_trans h4 k4, fun e => (k5 (by omega)).trans (h5 (by omega))⟩

theorem VRel.mono {m m' : Pl} {h h' : AHeap} (e : Ext m h m' h') {u v : Value} (hr : VRel m h u v) : VRel m' h' u v := by
  induction hr with
  | same hg => exact .same hg
  | ptr ho hle hv =>
    obtain ⟨o', ho', h1, h2, h3, h4, h5⟩ := e _ _ ho
    exact .ptr ho' (Nat.le_trans hle h4) fun hs => by
      have he := h5 (by omega)
      rw [he]; exact hv (by omega)
  | slc ho hle hc hv =>
    obtain ⟨o', ho', h1, h2, h3, h4, h5⟩ := e _ _ ho
    exact .slc ho' (Nat.le_trans hle h4) hc fun hs => by
      have he := h5 (by omega)
      rw [he, h1, h2]; exact hv (by omega)
  | func hx _ hy _ ihx ihy => exact .func hx ihx hy ihy
  | iface _ ih => exact .iface ih
  | agg hx _ ih => exact .agg hx ih
  | tuple hx _ ih => exact .tuple hx ih

theorem ARel.mono {m m' : Pl} {h h' : AHeap} (e : Ext m h m' h') {x y : Array Value} (hr : ARel m h x y) : ARel m' h' x y := ⟨hr.1, fun i u v hu hv => (hr.2 i u v hu hv).mono e⟩
theorem LRel.mono {m m' : Pl} {h h' : AHeap} (e : Ext m h m' h') {x y : List Value} (hr : LRel m h x y) : LRel m' h' x y := ⟨hr.1, fun i u v hu hv => (hr.2 i u v hu hv).mono e⟩

theorem ARel.list {m : Pl} {h : AHeap} {x y : Array Value} (hr : ARel m h x y) : LRel m h x.toList y.toList :=
  ⟨by simpa using hr.1, fun i u v hu hv => hr.2 i u v (by simpa using hu) (by simpa using hv)⟩
theorem LRel.arr {m : Pl} {h : AHeap} {x y : List Value} (hr : LRel m h x y) : ARel m h x.toArray y.toArray :=
  ⟨by simpa using hr.1, fun i u v hu hv => hr.2 i u v (by simpa using hu) (by simpa using hv)⟩
theorem LRel.nil (m : Pl) (h : AHeap) : LRel m h [] [] := ⟨rfl, fun i u v hu => by simp at hu⟩
theorem LRel.cons {m : Pl} {h : AHeap} {u v : Value} {x y : List Value} (hu : VRel m h u v) (hr : LRel m h x y) : LRel m h (u :: x) (v :: y) :=
  ⟨by simpa using hr.1, fun i a b ha hb => by
    cases i with
    | zero => simp at ha hb; subst ha; subst hb; exact hu
    | succ i => exact hr.2 i a b (by simpa using ha) (by simpa using hb)⟩
theorem LRel.head {m : Pl} {h : AHeap} {u v : Value} {x y : List Value} (hr : LRel m h (u :: x) (v :: y)) : VRel m h u v := hr.2 0 u v rfl rfl
theorem LRel.tail {m : Pl} {h : AHeap} {u v : Value} {x y : List Value} (hr : LRel m h (u :: x) (v :: y)) : LRel m h x y :=
  ⟨by simpa using hr.1, fun i a b ha hb => hr.2 (i + 1) a b (by simpa using ha) (by simpa using hb)⟩
theorem LRel.same {m : Pl} {h : AHeap} {x : List Value} (hg : groundL x = true) : LRel m h x x :=
  ⟨rfl, fun i u v hu hv => by rw [hu] at hv; cases hv; exact .same (groundL_get hg hu)⟩
theorem LRel.eq {m : Pl} {h : AHeap} {x y : List Value} (hr : LRel m h x y) (hg : groundL x = true) : y = x := by
  apply List.ext_getElem hr.1.symm
  intro i h1 h2
  exact (hr.2 i x[i] y[i] (List.getElem?_eq_getElem h2) (List.getElem?_eq_getElem h1)).eq (groundL_get hg (List.getElem?_eq_getElem h2))
theorem LRel.get {m : Pl} {h : AHeap} {x y : List Value} (hr : LRel m h x y) {i : Nat} {u : Value} (hu : x[i]? = some u) : ∃ v, y[i]? = some v ∧ VRel m h u v := by
  have hi : i < x.length := (List.getElem?_eq_some_iff.1 hu).1
  have hy : i < y.length := by have := hr.1; omega
  exact ⟨y[i], List.getElem?_eq_getElem hy, hr.2 i u _ hu (List.getElem?_eq_getElem hy)⟩
theorem LRel.append {m : Pl} {h : AHeap} {x y x' y' : List Value} (a : LRel m h x y) (b : LRel m h x' y') : LRel m h (x ++ x') (y ++ y') := by
  refine ⟨by simp [a.1, b.1], fun i u v hu hv => ?_⟩
  rw [List.getElem?_append] at hu hv
  rw [← a.1] at hv
  split at hu
  · rename_i hlt; rw [if_pos hlt] at hv; exact a.2 i u v hu hv
  · rename_i hlt; rw [if_neg hlt] at hv; exact b.2 _ u v hu hv
theorem LRel.take {m : Pl} {h : AHeap} {x y : List Value} (a : LRel m h x y) (n : Nat) : LRel m h (x.take n) (y.take n) := by
  refine ⟨by simp [a.1], fun i u v hu hv => ?_⟩
  rw [List.getElem?_take] at hu hv
  split at hu
  · rename_i hlt; rw [if_pos hlt] at hv; exact a.2 i u v hu hv
  · cases hu
theorem LRel.drop {m : Pl} {h : AHeap} {x y : List Value} (a : LRel m h x y) (n : Nat) : LRel m h (x.drop n) (y.drop n) :=
  ⟨by simp [a.1], fun i u v hu hv => a.2 (n + i) u v (by simpa using hu) (by simpa using hv)⟩
theorem LRel.set {m : Pl} {h : AHeap} {x y : List Value} (a : LRel m h x y) {u v : Value} (hr : VRel m h u v) (n : Nat) : LRel m h (x.set n u) (y.set n v) := by
  refine ⟨by simp [a.1], fun i p q hp hq => ?_⟩
  rw [List.getElem?_set] at hp hq
  by_cases e : n = i
  · rw [if_pos e] at hp hq
    split at hp
    · split at hq
      · cases hp; cases hq; exact hr
      · cases hq
    · cases hp
  · rw [if_neg e] at hp hq; exact a.2 i p q hp hq
theorem LRel.one {m : Pl} {h : AHeap} {x y : List Value} (a : LRel m h x y) (ho : ∀ u ∈ x, u.oneCell' = true) : ∀ v ∈ y, v.oneCell' = true := fun v hv => by
  obtain ⟨i, hi, rfl⟩ := List.getElem_of_mem hv
  have hx : i < x.length := by have := a.1; omega
  rw [(a.2 i x[i] y[i] (List.getElem?_eq_getElem hx) (List.getElem?_eq_getElem hi)).one]
  exact ho _ (List.getElem_mem hx)

/-- Memory that is only read: block, place, what stands there. -/
structure Mem where
  at_ : Nat → Nat → Option Value
  /-- Blocks that are known whole. -/
  big : Nat → Option Obj := fun _ => none
instance : CoeFun Mem (fun _ => Nat → Nat → Option Value) := ⟨Mem.at_⟩
instance : Coe (Nat → Nat → Option Value) Mem := ⟨fun f => ⟨f, fun _ => none⟩⟩

/-- No cell of these is frozen; one behind them may be. -/
def FzOk (n : Nat) (fz : Nat × Nat) : Prop := fz.1 = fz.2 ∨ n ≤ fz.1
theorem FzOk.free {n : Nat} {fz : Nat × Nat} (h : FzOk n fz) : ∀ j, j < n → ¬ (fz.1 ≤ j ∧ j < fz.2) := by
  intro j hj
  rcases h with h | h <;> omega

/-- How an object lies in the model's memory. -/
structure ORel (m : Pl) (h : AHeap) (w : World) (i : Nat) (o : AObj) (cs : Array Value) (t : TypeId) (fz : Nat × Nat) : Prop where
  blk : w.heap[(m i).1]? = some (.cells cs t fz)
  size : cs.size = (m i).2
  len : o.cells.length ≤ cs.size
  free : FzOk cs.size fz
  one : ∀ (j : Nat) v, cs[j]? = some v → v.oneCell' = true
  flat : o.flat = true → groundL o.cells = true
  rel : ∀ (j : Nat) u v, o.cells[j]? = some u → cs[j]? = some v → VRel m h u v

structure HRel (M : Mem) (m : Pl) (h : AHeap) (w : World) : Prop where
  inj : ∀ i j oi oj, hget h i = some oi → hget h j = some oj → (m i).1 = (m j).1 → i = j
  obj : ∀ (i : Nat) o, hget h i = some o → ∃ cs t fz, ORel m h w i o cs t fz
  ro : ∀ b off v, M b off = some v → w.cell? ⟨b, off, none⟩ = some v ∧ ground v = true ∧ v.oneCell' = true ∧ ∀ i o, hget h i = some o → (m i).1 ≠ b
  big : ∀ b x, M.big b = some x → w.heap[b]? = some x ∧ ∀ i o, hget h i = some o → (m i).1 ≠ b

/-- What a piece of a run does. -/
structure Tr (M : Mem) (m : Pl) (h : AHeap) (w : World) (m' : Pl) (h' : AHeap) (w' : World) : Prop where
  rel : HRel M m' h' w'
  ext : Ext m h m' h'
  os : w'.os = w.os
  tape : w'.tape = w.tape
  output : w'.output = w.output
  size : w.heap.size ≤ w'.heap.size
  frame : ∀ b, b < w.heap.size → (∀ i o, hget h i = some o → (m i).1 ≠ b) → w'.heap[b]? = w.heap[b]?
  own : ∀ i o', hget h' i = some o' → w.heap.size ≤ (m' i).1 ∨ ∃ j o, hget h j = some o ∧ (m' i).1 = (m j).1

theorem Tr.refl {M : Mem} {m : Pl} {h : AHeap} {w : World} (r : HRel M m h w) : Tr M m h w m h w :=
  ⟨r, .refl m h, rfl, rfl, rfl, Nat.le_refl _, fun _ _ _ => rfl, fun i o hi => .inr ⟨i, o, hi, rfl⟩⟩

theorem Tr.trans {M : Mem} {m m' m'' : Pl} {h h' h'' : AHeap} {w w' w'' : World} (a : Tr M m h w m' h' w') (b : Tr M m' h' w' m'' h'' w'') : Tr M m h w m'' h'' w'' where
  rel := b.rel
  ext := a.ext.trans b.ext
  os := b.os.trans a.os
  tape := b.tape.trans a.tape
  output := b.output.trans a.output
  size := Nat.le_trans a.size b.size
  frame := fun k hk hn => by
    rw [b.frame k (Nat.lt_of_lt_of_le hk a.size) fun i o hi e => ?_, a.frame k hk hn]
    rcases a.own i o hi with h1 | ⟨j, oj, hj, h1⟩
    · omega
    · exact hn j oj hj (h1 ▸ e)
  own := fun i o hi => by
    rcases b.own i o hi with h1 | ⟨j, oj, hj, h1⟩
    · exact .inl (Nat.le_trans a.size h1)
    · rcases a.own j oj hj with h2 | ⟨k, ok, hk, h2⟩
      · exact .inl (h1 ▸ h2)
      · exact .inr ⟨k, ok, hk, h1.trans h2⟩

/-- A world that differs in its count of draws alone. -/
theorem HRel.drawn {M : Mem} {m : Pl} {h : AHeap} {w : World} (r : HRel M m h w) (n : Nat) : HRel M m h { w with drawn := n } :=
  ⟨r.inj, fun i o ho => let ⟨cs, t, fz, x⟩ := r.obj i o ho; ⟨cs, t, fz, ⟨x.blk, x.size, x.len, x.free, x.one, x.flat, x.rel⟩⟩, r.ro, r.big⟩
theorem Tr.drawn {M : Mem} {m : Pl} {h : AHeap} {w : World} (r : HRel M m h w) (n : Nat) : Tr M m h w m h { w with drawn := n } :=
  ⟨r.drawn n, .refl m h, rfl, rfl, rfl, Nat.le_refl _, fun _ _ _ => rfl, fun i o hi => .inr ⟨i, o, hi, rfl⟩⟩

/-- The abstract cell at an address, j places on. -/
def acell (M : Mem) (h : AHeap) (a : Addr) (j : Nat) : Option Value :=
  match a.spot with
  | some sz => match hget h a.block with
    | some o => if o.cells.length = sz then o.cells[a.off + j]? else none
    | none => none
  | none => M a.block (a.off + j)

theorem add_lit (b o n : Nat) : Addr.add ⟨b, o, none⟩ n = ⟨b, o + n, none⟩ := by
  unfold Addr.add
  split
  · subst_vars; rfl
  · rfl

theorem acell_sound {M : Mem} {m : Pl} {h : AHeap} {w : World} (r : HRel M m h w) {a a' : Addr} (hp : VRel m h (.pointer (some a)) (.pointer (some a'))) {j : Nat} {u : Value}
    (hc : acell M h a j = some u) : ∃ v, w.cell? (a'.add j) = some v ∧ VRel m h u v ∧ v.oneCell' = true := by
  cases hp with
  | same hg =>
    obtain ⟨b, off, spot⟩ := a
    simp only [ground, Option.isNone_iff_eq_none] at hg
    subst hg
    simp only [acell] at hc
    obtain ⟨h1, h2, h3, _⟩ := r.ro _ _ _ hc
    exact ⟨u, by rw [add_lit]; exact h1, .same h2, h3⟩
  | ptr ho hle hv =>
    rename_i i off sz o
    simp only [acell, ho] at hc
    split at hc
    · rename_i hs
      have ha := hv hs.symm
      subst ha
      obtain ⟨cs, t, fz, x⟩ := r.obj i o ho
      have hj : off + j < o.cells.length := (List.getElem?_eq_some_iff.1 hc).1
      have hj' : off + j < cs.size := Nat.lt_of_lt_of_le hj x.len
      have hcs : cs[off + j]? = some cs[off + j] := Array.getElem?_eq_getElem hj'
      refine ⟨cs[off + j], ?_, x.rel _ _ _ hc hcs, x.one _ _ hcs⟩
      rw [add_lit]
      simp only [World.cell?, x.blk]
      simp
    · cases hc

end Go.Ab

namespace Go.Ab

theorem hget_set_self {h : AHeap} {i : Nat} (hi : i < h.length) (o : Option AObj) : hget (h.set i o) i = o := by simp [hget, hi]
theorem hget_set_ne {h : AHeap} {i k : Nat} (hk : i ≠ k) (o : Option AObj) : hget (h.set i o) k = hget h k := by simp [hget, List.getElem?_set_ne hk]

theorem HRel.lt {M : Mem} {m : Pl} {h : AHeap} {w : World} (r : HRel M m h w) {i : Nat} {o : AObj} (hi : hget h i = some o) : (m i).1 < w.heap.size := by
  obtain ⟨cs, t, fz, x⟩ := r.obj i o hi
  exact (Array.getElem?_eq_some_iff.1 x.blk).1

theorem HRel.big_lt {M : Mem} {m : Pl} {h : AHeap} {w : World} (r : HRel M m h w) {b : Nat} {x : Obj} (hx : M.big b = some x) : b < w.heap.size :=
  (Array.getElem?_eq_some_iff.1 (r.big b x hx).1).1
theorem HRel.ro_lt {M : Mem} {m : Pl} {h : AHeap} {w : World} (r : HRel M m h w) {b off : Nat} {v : Value} (hv : M b off = some v) : b < w.heap.size :=
  World.block_lt_of_cell? w ⟨b, off, none⟩ (r.ro b off v hv).1

theorem cell_of_heap {w w' : World} {a : Addr} (h : w'.heap[a.block]? = w.heap[a.block]?) : w'.cell? a = w.cell? a := by
  simp only [World.cell?, h]

/-- One object turns (in its block, or in a new one); all else stays. -/
theorem Tr.upd {M : Mem} {m m' : Pl} {h : AHeap} {w w' : World} {i : Nat} {o o' : AObj} (r : HRel M m h w) (ho : hget h i = some o)
    (hm : ∀ k, k ≠ i → m' k = m k) (hb : (m' i).1 = (m i).1 ∨ w.heap.size ≤ (m' i).1)
    (hg : o'.grow = o.grow) (he : o'.esz = o.esz) (hf : o'.flat = o.flat) (hlen : o.cells.length ≤ o'.cells.length) (hpl : o'.cells.length = o.cells.length → m' i = m i)
    (hsz : w.heap.size ≤ w'.heap.size) (hframe : ∀ k, k < w.heap.size → k ≠ (m i).1 → w'.heap[k]? = w.heap[k]?)
    (hos : w'.os = w.os) (htape : w'.tape = w.tape) (hout : w'.output = w.output)
    (hx : Ext m h m' (h.set i (some o')) → ∃ cs t fz, ORel m' (h.set i (some o')) w' i o' cs t fz) : Tr M m h w m' (h.set i (some o')) w' := by
  have hi : i < h.length := hget_lt ho
  have hself : hget (h.set i (some o')) i = some o' := hget_set_self hi _
  have hne : ∀ {k}, k ≠ i → hget (h.set i (some o')) k = hget h k := fun hk => hget_set_ne (Ne.symm hk) _
  have hext : Ext m h m' (h.set i (some o')) := fun k p hp => by
    by_cases hk : k = i
    · subst hk
      rw [ho] at hp; cases hp
      exact ⟨o', hself, hg, he, hf, hlen, hpl⟩
    · exact ⟨p, by rw [hne hk]; exact hp, rfl, rfl, rfl, Nat.le_refl _, fun _ => hm k hk⟩
  have far : ∀ k p, hget h k = some p → k ≠ i → (m k).1 ≠ (m i).1 := fun k p hk hne e => hne (r.inj k i p o hk ho e)
  have live : ∀ k p, hget (h.set i (some o')) k = some p → ∃ q, hget h k = some q := fun k p hp => by
    by_cases hk : k = i
    · exact ⟨o, hk ▸ ho⟩
    · rw [hne hk] at hp; exact ⟨p, hp⟩
  refine ⟨⟨fun a b pa pb ha hb' e => ?_, fun k p hp => ?_, fun b off v hv => ?_, fun b x hx => ?_⟩, hext, hos, htape, hout, hsz, fun b hb' hn => hframe b hb' fun e => hn i o ho e.symm, fun k p hk => ?_⟩
  · obtain ⟨qa, ga⟩ := live a pa ha
    obtain ⟨qb, gb⟩ := live b pb hb'
    by_cases hai : a = i
    · by_cases hbi : b = i
      · rw [hai, hbi]
      · subst hai
        rw [hm b hbi] at e
        rcases hb with h1 | h1
        · exact r.inj _ _ _ _ ga gb (h1.symm.trans e)
        · have := r.lt gb; omega
    · by_cases hbi : b = i
      · subst hbi
        rw [hm a hai] at e
        rcases hb with h1 | h1
        · exact r.inj _ _ _ _ ga gb (e.trans h1)
        · have := r.lt ga; omega
      · rw [hm a hai, hm b hbi] at e
        exact r.inj a b _ _ ga gb e
  · by_cases hk : k = i
    · subst hk
      rw [hself] at hp
      cases hp
      exact hx hext
    · rw [hne hk] at hp
      obtain ⟨cs, t, fz, x⟩ := r.obj k p hp
      refine ⟨cs, t, fz, ⟨?_, ?_, x.len, x.free, x.one, x.flat, fun j u v hu hv => (x.rel j u v hu hv).mono hext⟩⟩
      · rw [hm k hk, hframe _ (r.lt hp) (far k p hp hk)]; exact x.blk
      · rw [hm k hk]; exact x.size
  · obtain ⟨h1, h2, h3, h4⟩ := r.ro b off v hv
    have hbl := r.ro_lt hv
    refine ⟨(cell_of_heap (hframe b hbl (Ne.symm (h4 i o ho)))).trans h1, h2, h3, fun k p hk => ?_⟩
    obtain ⟨q, gk⟩ := live k p hk
    by_cases hki : k = i
    · subst hki
      rcases hb with h5 | h5
      · rw [h5]; exact h4 k q gk
      · omega
    · rw [hm k hki]; exact h4 k q gk
  · obtain ⟨h1, h4⟩ := r.big b x hx
    have hbl := r.big_lt hx
    refine ⟨(hframe b hbl (Ne.symm (h4 i o ho))).trans h1, fun k p hk => ?_⟩
    obtain ⟨q, gk⟩ := live k p hk
    by_cases hki : k = i
    · subst hki
      rcases hb with h5 | h5
      · rw [h5]; exact h4 k q gk
      · omega
    · rw [hm k hki]; exact h4 k q gk
  · obtain ⟨q, gk⟩ := live k p hk
    by_cases hki : k = i
    · subst hki
      rcases hb with h5 | h5
      · exact .inr ⟨k, q, gk, h5⟩
      · exact .inl h5
    · exact .inr ⟨k, q, gk, by rw [hm k hki]⟩

/-- Number i is filled (an empty one, or the next). -/
def hput (h : AHeap) (i : Nat) (o : AObj) : AHeap := if i < h.length then h.set i (some o) else h ++ [some o]

theorem hget_hput {h : AHeap} {i : Nat} (hi : i ≤ h.length) (o : AObj) (k : Nat) : hget (hput h i o) k = if k = i then some o else hget h k := by
  unfold hput
  by_cases hlt : i < h.length
  · rw [if_pos hlt]
    by_cases hk : k = i
    · subst hk; rw [if_pos rfl, hget_set_self hlt]
    · rw [if_neg hk, hget_set_ne (Ne.symm hk)]
  · have he : i = h.length := by omega
    rw [if_neg hlt]
    by_cases hk : k = i
    · subst hk; rw [if_pos rfl]; simp [hget, he]
    · rw [if_neg hk]
      unfold hget
      rcases Nat.lt_or_ge k h.length with h1 | h1
      · rw [List.getElem?_append_left h1]
      · rw [List.getElem?_eq_none (l := h ++ [some o]) (by simp; omega), List.getElem?_eq_none h1]

theorem hput_end (h : AHeap) (o : AObj) : hput h h.length o = h ++ [some o] := by simp [hput]

/-- A new object in the world's next block. -/
def plNew (m : Pl) (i : Nat) (b n : Nat) : Pl := fun k => if k = i then (b, n) else m k

theorem Tr.new {M : Mem} {m : Pl} {h : AHeap} {w w' : World} (r : HRel M m h w) {i : Nat} (hi : i ≤ h.length) (hnone : hget h i = none) (o : AObj) (cs : Array Value) (t : TypeId) (fz : Nat × Nat)
    (hblk : w'.heap[w.heap.size]? = some (.cells cs t fz)) (hframe : ∀ k, k < w.heap.size → w'.heap[k]? = w.heap[k]?)
    (hos : w'.os = w.os) (htape : w'.tape = w.tape) (hout : w'.output = w.output)
    (hlen : o.cells.length ≤ cs.size) (free : FzOk cs.size fz) (one : ∀ (j : Nat) v, cs[j]? = some v → v.oneCell' = true)
    (flat : o.flat = true → groundL o.cells = true) (rel : ∀ (j : Nat) u v, o.cells[j]? = some u → cs[j]? = some v → VRel m h u v) :
    Tr M m h w (plNew m i w.heap.size cs.size) (hput h i o) w' := by
  have hsz : w.heap.size < w'.heap.size := (Array.getElem?_eq_some_iff.1 hblk).1
  have hold : ∀ k, k ≠ i → plNew m i w.heap.size cs.size k = m k := fun k hk => by simp [plNew, hk]
  have hnew : plNew m i w.heap.size cs.size i = (w.heap.size, cs.size) := by simp [plNew]
  have hg := hget_hput hi o
  have ne_of : ∀ {k p}, hget h k = some p → k ≠ i := fun hk e => by subst e; rw [hnone] at hk; cases hk
  have hext : Ext m h (plNew m i w.heap.size cs.size) (hput h i o) := fun k p hp =>
    ⟨p, by rw [hg, if_neg (ne_of hp)]; exact hp, rfl, rfl, rfl, Nat.le_refl _, fun _ => hold k (ne_of hp)⟩
  have live : ∀ {k p}, hget (hput h i o) k = some p → k ≠ i → hget h k = some p := fun hp hk => by rw [hg, if_neg hk] at hp; exact hp
  refine ⟨⟨fun a b pa pb ha hb e => ?_, fun k p hp => ?_, fun b off v hv => ?_, fun b x hx => ?_⟩, hext, hos, htape, hout, Nat.le_of_lt hsz, fun b hb _ => hframe b hb, fun k p hk => ?_⟩
  · by_cases hal : a = i
    · by_cases hbl : b = i
      · rw [hal, hbl]
      · rw [hal, hnew, hold b hbl] at e
        have := r.lt (live hb hbl); simp only at e; omega
    · by_cases hbl : b = i
      · rw [hbl, hnew, hold a hal] at e
        have := r.lt (live ha hal); simp only at e; omega
      · rw [hold a hal, hold b hbl] at e
        exact r.inj a b _ _ (live ha hal) (live hb hbl) e
  · by_cases hk : k = i
    · subst hk
      rw [hg, if_pos rfl] at hp
      cases hp
      exact ⟨cs, t, fz, ⟨by rw [hnew]; exact hblk, by rw [hnew], hlen, free, one, flat, fun j u v hu hv => (rel j u v hu hv).mono hext⟩⟩
    · have hp' := live hp hk
      obtain ⟨cs', t', fz', x⟩ := r.obj k p hp'
      exact ⟨cs', t', fz', ⟨by rw [hold k hk, hframe _ (r.lt hp')]; exact x.blk, by rw [hold k hk]; exact x.size, x.len, x.free, x.one, x.flat, fun j u v hu hv => (x.rel j u v hu hv).mono hext⟩⟩
  · obtain ⟨h1, h2, h3, h4⟩ := r.ro b off v hv
    have hbl := r.ro_lt hv
    refine ⟨(cell_of_heap (hframe b hbl)).trans h1, h2, h3, fun k p hk => ?_⟩
    by_cases hkl : k = i
    · rw [hkl, hnew]; simp only; omega
    · rw [hold k hkl]; exact h4 k p (live hk hkl)
  · obtain ⟨h1, h4⟩ := r.big b x hx
    have hbl := r.big_lt hx
    refine ⟨(hframe b hbl).trans h1, fun k p hk => ?_⟩
    by_cases hkl : k = i
    · rw [hkl, hnew]; simp only; omega
    · rw [hold k hkl]; exact h4 k p (live hk hkl)
  · by_cases hkl : k = i
    · rw [hkl, hnew]; exact .inl (Nat.le_refl _)
    · exact .inr ⟨k, p, live hk hkl, by rw [hold k hkl]⟩

theorem new_ptr {m : Pl} {h : AHeap} {i b n : Nat} {o : AObj} (hi : i ≤ h.length) :
    VRel (plNew m i b n) (hput h i o) (.pointer (some ⟨i, 0, some o.cells.length⟩)) (.pointer (some ⟨b, 0, none⟩)) :=
  .ptr (o := o) (by rw [hget_hput hi, if_pos rfl]) (Nat.le_refl _) fun _ => by simp [plNew]

theorem new_slc {m : Pl} {h : AHeap} {i b n : Nat} {o : AObj} {len cap cap' : Nat} (hi : i ≤ h.length) (hl : len ≤ cap) (hc : cap ≤ cap') (hg : o.grow = true) (hz : cap' * o.esz ≤ n) :
    VRel (plNew m i b n) (hput h i o) (.slice (some ⟨i, 0, some o.cells.length⟩) len cap) (.slice (some ⟨b, 0, none⟩) len cap') :=
  .slc (o := o) (by rw [hget_hput hi, if_pos rfl]) (Nat.le_refl _) ⟨hl, hc⟩ fun _ => ⟨(fun _ => by simp [plNew]), (fun (hf : o.grow = false) => by rw [hg] at hf; cases hf), (fun _ => by simpa [plNew] using hz)⟩

/-- May this value stand in a cell of such an object? -/
def okv (flat : Bool) (u : Value) : Bool := u.oneCell' && (!flat || ground u)
def okL (flat : Bool) (l : List Value) : Bool := l.all (okv flat)

theorem okv_one {flat : Bool} {u : Value} (h : okv flat u = true) : u.oneCell' = true := by simp [okv] at h; exact h.1
theorem okv_ground {u : Value} (h : okv true u = true) : ground u = true := by simp [okv] at h; exact h.2
theorem okL_one {flat : Bool} {l : List Value} (h : okL flat l = true) : ∀ u ∈ l, u.oneCell' = true := fun u hu => okv_one (List.all_eq_true.1 h u hu)
theorem okL_ground {l : List Value} (h : okL true l = true) : groundL l = true := (groundL_iff l).2 fun u hu => okv_ground (List.all_eq_true.1 h u hu)
theorem okL_ground' {flat : Bool} {l : List Value} (h : okL flat l = true) (hf : flat = true) : groundL l = true := by subst hf; exact okL_ground h

/-- One cell is written. -/
def astore1 (h : AHeap) (a : Addr) (u : Value) : Option AHeap :=
  match a.spot with
  | some sz => match hget h a.block with
    | some o => if o.cells.length = sz ∧ a.off < sz ∧ okv o.flat u = true then some (h.set a.block (some { o with cells := o.cells.set a.off u })) else none
    | none => none
  | none => none

theorem groundL_set {l : List Value} (hl : groundL l = true) {u : Value} (hu : ground u = true) (i : Nat) : groundL (l.set i u) = true := by
  rw [groundL_iff] at *
  intro v hv
  rcases List.mem_or_eq_of_mem_set hv with h1 | h1
  · exact hl v h1
  · exact h1 ▸ hu

theorem store1_sound {P : Program} {M : Mem} {m : Pl} {h h' : AHeap} {w : World} (r : HRel M m h w) {a a' : Addr} (hp : VRel m h (.pointer (some a)) (.pointer (some a')))
    {u v : Value} (hu : VRel m h u v) (hs : astore1 h a u = some h') :
    (store a' v).run P w = .ok () (w.setCell a' v) ∧ Tr M m h w m h' (w.setCell a' v) := by
  cases hp with
  | same hg =>
    obtain ⟨b, off, spot⟩ := a
    simp only [ground, Option.isNone_iff_eq_none] at hg
    subst hg
    simp [astore1] at hs
  | ptr ho hle hv =>
    rename_i i off sz o
    simp only [astore1, ho] at hs
    split at hs
    · rename_i hc
      obtain ⟨hc1, hc2, hc3⟩ := hc
      cases hs
      have ha := hv hc1.symm
      subst ha
      obtain ⟨cs, t, fz, x⟩ := r.obj i o ho
      have hj : off < cs.size := by have := x.len; omega
      have hcell : w.cell? ⟨(m i).1, off, none⟩ = some cs[off] := by simp [World.cell?, x.blk, hj]
      have hfro : w.frozen? ⟨(m i).1, off, none⟩ = false := by
        have := x.free.free off hj
        obtain ⟨lo, hi'⟩ := fz
        simp only [World.frozen?, x.blk]
        simpa using this
      have hone : v.oneCell' = true := by rw [hu.one]; exact okv_one hc3
      refine ⟨by rw [run_store P w _ v _ hone, hcell]; simp [hfro], ?_⟩
      have hheap : ∀ k, (w.setCell ⟨(m i).1, off, none⟩ v).heap[k]? = if k = (m i).1 then some (.cells (cs.setIfInBounds off v) t fz) else w.heap[k]? := fun k => by
        simp only [World.setCell, Array.getElem?_modify]
        by_cases hk : k = (m i).1
        · subst hk; simp [x.blk]
        · simp [hk, Ne.symm hk]
      refine Tr.upd r ho (fun _ _ => rfl) (.inl rfl) rfl rfl rfl (by simp) (fun _ => rfl) (by simp) (fun k _ hk => by rw [hheap, if_neg hk]) rfl rfl rfl fun hext => ?_
      refine ⟨cs.setIfInBounds off v, t, fz, ⟨by rw [hheap, if_pos rfl], by simpa using x.size, by simpa using x.len, by simpa using x.free, fun j z hz => ?_, fun hf => ?_, fun j p q hp' hq => ?_⟩⟩
      · rw [Array.getElem?_setIfInBounds] at hz
        split at hz
        · first
            | (cases hz; exact hone)
            | (split at hz
               · cases hz; exact hone
               · cases hz)
        · exact x.one j z hz
      · have hf' : o.flat = true := hf
        rw [hf'] at hc3
        exact groundL_set (x.flat hf') (okv_ground hc3) off
      · rw [Array.getElem?_setIfInBounds] at hq
        rw [List.getElem?_set] at hp'
        by_cases hjo : off = j
        · rw [if_pos hjo] at hp' hq
          split at hp' <;> cases hp'
          have hjc : j < cs.size := hjo ▸ hj
          simp only [hjo, hjc, if_true] at hq
          cases hq
          exact hu.mono hext
        · rw [if_neg hjo] at hp' hq
          exact (x.rel j p q hp' hq).mono hext
    · cases hs

/-- Cells are written one behind the other. -/
def astores (h : AHeap) (a : Addr) : List Value → Nat → Option AHeap
  | [], _ => some h
  | u :: r, i => match astore1 h { a with off := a.off + i } u with
    | some h' => astores h' a r (i + 1)
    | none => none

theorem VRel.ptr_add {m : Pl} {h : AHeap} {a a' : Addr} (hp : VRel m h (.pointer (some a)) (.pointer (some a'))) (hs : a.spot.isSome = true) (i : Nat) :
    ∃ a'', VRel m h (.pointer (some { a with off := a.off + i })) (.pointer (some a'')) ∧ (∀ o, hget h a.block = some o → a.spot = some o.cells.length → a'' = a'.add i) := by
  cases hp with
  | same hg =>
    simp only [ground, Option.isNone_iff_eq_none] at hg
    rw [hg] at hs; cases hs
  | ptr ho hle hv =>
    rename_i k off sz o
    by_cases hz : sz = o.cells.length
    · refine ⟨a'.add i, .ptr ho hle fun e => by rw [hv e, add_lit], fun _ _ _ => rfl⟩
    · refine ⟨a'.add i, .ptr ho hle fun e => absurd e hz, fun _ _ _ => rfl⟩

theorem stores_sound {P : Program} {M : Mem} {m : Pl} : ∀ (us vs : List Value) (i : Nat) {h h' : AHeap} {w : World} (r : HRel M m h w) {a a' : Addr} (hp : VRel m h (.pointer (some a)) (.pointer (some a')))
    (hu : LRel m h us vs) (hs : astores h a us i = some h'), ∃ w', (storeCells a' vs i).run P w = .ok () w' ∧ Tr M m h w m h' w' := by
  intro us
  induction us with
  | nil =>
    intro vs i h h' w r a a' hp hu hs
    cases vs with
    | nil => cases hs; exact ⟨w, rfl, .refl r⟩
    | cons v vs => have := hu.1; simp at this
  | cons u us ih =>
    intro vs i h h' w r a a' hp hu hs
    cases vs with
    | nil => have := hu.1; simp at this
    | cons v vs =>
      simp only [astores] at hs
      cases h1 : astore1 h { a with off := a.off + i } u with
      | none => rw [h1] at hs; cases hs
      | some h2 =>
        rw [h1] at hs
        have hsome : a.spot.isSome = true := by
          unfold astore1 at h1
          cases hsp : a.spot with
          | none => simp [hsp] at h1
          | some _ => rfl
        have hval : ∃ o, hget h a.block = some o ∧ a.spot = some o.cells.length := by
          unfold astore1 at h1
          cases hsp : a.spot with
          | none => simp [hsp] at h1
          | some sz =>
            simp only [hsp] at h1
            cases ho : hget h a.block with
            | none => simp [ho] at h1
            | some o =>
              simp only [ho] at h1
              split at h1
              · rename_i hc; exact ⟨o, rfl, by rw [hc.1]⟩
              · cases h1
        obtain ⟨a'', hp'', hadd⟩ := hp.ptr_add hsome i
        obtain ⟨o, ho, hsz⟩ := hval
        have he := hadd o ho hsz
        subst he
        obtain ⟨hrun, htr⟩ := store1_sound (P := P) r hp'' hu.head h1
        obtain ⟨w', hrun', htr'⟩ := ih vs (i + 1) htr.rel (hp.mono htr.ext) (hu.tail.mono htr.ext) hs
        exact ⟨w', by simp only [storeCells, Sem.run_bind, hrun, Result.andThen_ok]; exact hrun', htr.trans htr'⟩

/-- Cells are read one behind the other. -/
def aload (M : Mem) (h : AHeap) (a : Addr) (n : Nat) : Option (List Value) :=
  match a.spot with
  | some sz => match hget h a.block with
    | some o => if o.cells.length = sz ∧ a.off + n ≤ sz then some ((o.cells.drop a.off).take n) else none
    | none => none
  | none => roload M a.block a.off n
  where
  roload (M : Mem) (b off : Nat) : Nat → Option (List Value)
    | 0 => some []
    | n + 1 => match M b off, roload M b (off + 1) n with
      | some v, some r => some (v :: r)
      | _, _ => none

theorem roload_get {M : Mem} {b : Nat} : ∀ (n off : Nat) (us : List Value), aload.roload M b off n = some us → us.length = n ∧ ∀ (j : Nat) u, us[j]? = some u → M b (off + j) = some u := by
  intro n
  induction n with
  | zero => intro off us h; cases h; exact ⟨rfl, fun j u hu => by simp at hu⟩
  | succ n ih =>
    intro off us h
    simp only [aload.roload] at h
    split at h
    · rename_i v r hv hr
      cases h
      obtain ⟨h1, h2⟩ := ih _ _ hr
      refine ⟨by simp [h1], fun j u hu => ?_⟩
      cases j with
      | zero => simp at hu; subst hu; exact hv
      | succ j => have := h2 j u (by simpa using hu); rw [show off + (j + 1) = off + 1 + j by omega]; exact this
    · cases h

theorem aload_get {M : Mem} {h : AHeap} {a : Addr} {n : Nat} {us : List Value} (hl : aload M h a n = some us) : us.length = n ∧ ∀ (j : Nat) u, us[j]? = some u → acell M h a j = some u := by
  obtain ⟨b, off, spot⟩ := a
  cases spot with
  | none =>
    simp only [aload] at hl
    obtain ⟨h1, h2⟩ := roload_get n off us hl
    exact ⟨h1, fun j u hu => h2 j u hu⟩
  | some sz =>
    simp only [aload] at hl
    split at hl
    · rename_i o ho
      split at hl
      · rename_i hc
        cases hl
        refine ⟨by simp; omega, fun j u hu => ?_⟩
        simp only [acell, ho, hc.1, if_true]
        rw [List.getElem?_take] at hu
        split at hu
        · simpa using hu
        · cases hu
      · cases hl
    · cases hl

theorem load_sound {P : Program} {M : Mem} {m : Pl} {h : AHeap} {w : World} (r : HRel M m h w) {a a' : Addr} (hp : VRel m h (.pointer (some a)) (.pointer (some a'))) {n : Nat} {us : List Value}
    (hl : aload M h a n = some us) : ∃ vs : List Value, (∀ c : Nat, (loadCells a' n).run P { w with drawn := c } = .ok vs.toArray { w with drawn := c }) ∧ LRel m h us vs ∧ vs.length = n ∧ ∀ v ∈ vs, v.oneCell' = true := by
  obtain ⟨h1, h2⟩ := aload_get hl
  have hc : ∀ j, j < n → ∃ v, w.cell? (a'.add j) = some v ∧ v.oneCell' = true ∧ ∀ u, us[j]? = some u → VRel m h u v := fun j hj => by
    have hj' : j < us.length := by omega
    obtain ⟨v, hv, hr, ho⟩ := acell_sound r hp (h2 j us[j] (List.getElem?_eq_getElem hj'))
    exact ⟨v, hv, ho, fun u hu => by rw [List.getElem?_eq_getElem hj'] at hu; cases hu; exact hr⟩
  let f : Nat → Value := fun j => (w.cell? (a'.add j)).getD undef
  have hf : ∀ j, j < n → w.cell? (a'.add j) = some (f j) := fun j hj => by
    obtain ⟨v, hv, _⟩ := hc j hj
    simp [f, hv]
  refine ⟨(List.range n).map f, fun c => run_loadCells { w with drawn := c } a' n f hf, ⟨by simp [h1], fun j u v hu hv => ?_⟩, by simp, fun v hv => ?_⟩
  · simp only [List.getElem?_map] at hv
    have hj : j < n := by have := (List.getElem?_eq_some_iff.1 hu).1; omega
    rw [List.getElem?_range hj] at hv
    simp at hv
    obtain ⟨v', hv', _, hr⟩ := hc j hj
    have := hf j hj
    rw [hv'] at this
    cases this
    rw [← hv]; exact hr u hu
  · obtain ⟨j, hj, rfl⟩ := List.mem_map.1 hv
    have hj := List.mem_range.1 hj
    obtain ⟨v', hv', ho, _⟩ := hc j hj
    have := hf j hj
    rw [hv'] at this
    cases this
    exact ho

end Go.Ab

namespace Go.Ab

/-- What a piece of the model's semantics gives if it asks nothing of the world. -/
def peval {α : Type} (P : Program) : Sem α → Option α
  | .pure a => some a
  | .program k => peval P (k P)
  | .mark _ k => peval P k
  | _ => none

theorem peval_run {α : Type} {P : Program} (e : Sem α) {a : α} (h : peval P e = some a) (w : World) : e.run P w = .ok a w := by
  induction e with
  | pure b => simp [peval] at h; subst h; rfl
  | program k ih => simp only [peval] at h; exact ih P h
  | mark m k ih => simp only [peval] at h; exact ih h
  | _ => simp [peval] at h

structure ASt where
  tmps : List Value
  heap : AHeap

def aev (ts : List Value) : Operand → Option Value
  | .tmp t => some (ts.getD t undef)
  | .const v => if ground v then some v else none
  | .global g => some (.pointer (some ⟨g, 0, none⟩))
  | .func f => some (.func (.func f) #[] #[])

def TRel (m : Pl) (h : AHeap) (ts : List Value) (a : Array Value) : Prop := LRel m h ts a.toList

theorem TRel.mono {m m' : Pl} {h h' : AHeap} (e : Ext m h m' h') {ts : List Value} {a : Array Value} (r : TRel m h ts a) : TRel m' h' ts a := LRel.mono e r

theorem aev_sound {m : Pl} {h : AHeap} {ts : List Value} {a : Go.Act} (r : TRel m h ts a.tmps) {x : Operand} {u : Value} (hx : aev ts x = some u) : VRel m h u (a.eval x) := by
  cases x with
  | tmp t =>
    simp only [aev, Option.some.injEq] at hx
    subst hx
    simp only [Go.Act.eval]
    rw [List.getD_eq_getElem?_getD, Array.getD_eq_getD_getElem?]
    cases ht : ts[t]? with
    | none =>
      have : a.tmps[t]? = none := by
        rw [Array.getElem?_eq_none_iff]
        have h1 := List.getElem?_eq_none_iff.1 ht
        have h2 := r.1
        simp at h2
        omega
      rw [this]
      exact .same rfl
    | some u =>
      obtain ⟨v, hv, hr⟩ := r.get ht
      have : a.tmps[t]? = some v := by simpa using hv
      rw [this]
      exact hr
  | const v =>
    simp only [aev] at hx
    split at hx
    · cases hx; exact .same ‹_›
    · cases hx
  | global g => simp only [aev, Option.some.injEq] at hx; subst hx; exact .same rfl
  | func f => simp only [aev, Option.some.injEq] at hx; subst hx; exact .same rfl

def aput (ts : List Value) (d : Option Tmp) (v : Value) : List Value :=
  match d with
  | some d => ts.set d v
  | none => ts

theorem aput_sound {m : Pl} {h : AHeap} {ts : List Value} {a : Go.Act} (r : TRel m h ts a.tmps) {d : Option Tmp} {u v : Value} (hr : VRel m h u v) : TRel m h (aput ts d u) (a.put d v).tmps := by
  cases d with
  | none => exact r
  | some d =>
    have : (a.put (some d) v).tmps.toList = a.tmps.toList.set d v := by simp [Go.Act.put]
    unfold TRel
    rw [this]
    exact LRel.set r hr d

/-- A value that may be handed on as it is. -/
def gr (v : Option Value) : Option Value :=
  match v with
  | some v => if ground v then some v else none
  | none => none

theorem gr_some {v : Option Value} {u : Value} (h : gr v = some u) : v = some u ∧ ground u = true := by
  cases v with
  | none => simp [gr] at h
  | some v =>
    simp only [gr] at h
    split at h
    · cases h; exact ⟨rfl, ‹_›⟩
    · cases h

def szOf (P : Program) (t : TypeId) : Option Nat := (P.info? t).map (·.size)
def aggT (P : Program) (t : TypeId) : Option Bool := (P.underlying t).map fun
  | .struct _ | .array _ _ => true
  | _ => false

theorem run_sizeOf {P : Program} {t : TypeId} {n : Nat} (h : szOf P t = some n) (w : World) : (sizeOf t).run P w = .ok n w := by
  unfold szOf at h
  cases hi : P.info? t with
  | none => simp [hi] at h
  | some i => simp [hi] at h; subst h; simp [sizeOf, typeInfo, hi]

theorem run_isAgg {P : Program} {t : TypeId} {b : Bool} (h : aggT P t = some b) (w : World) : (isAgg t).run P w = .ok b w := by
  unfold aggT at h
  cases hi : P.underlying t with
  | none => simp [hi] at h
  | some d =>
    simp [hi] at h; subst h
    simp only [isAgg, Sem.run_bind, run_underlying hi, Result.andThen_ok]
    cases d <;> rfl

/-- A part of an aggregate's cells. -/
def apart (P : Program) (t : TypeId) (cs : List Value) (off : Nat) : Option Value :=
  match aggT P t with
  | some true => match szOf P t with
    | some n => some (.agg ⟨(cs.drop off).take n⟩)
    | none => none
  | some false => cs[off]?
  | none => none

theorem apart_sound {P : Program} {m : Pl} {h : AHeap} {t : TypeId} {cs : List Value} {ds : Array Value} {off : Nat} {u : Value} (hc : LRel m h cs ds.toList) (hp : apart P t cs off = some u) :
    ∃ v, (∀ w, (part t ds off).run P w = .ok v w) ∧ VRel m h u v := by
  unfold apart at hp
  split at hp
  · rename_i ha
    split at hp
    · rename_i n hn
      cases hp
      refine ⟨.agg (ds.extract off (off + n)), fun w => by simp [part, run_isAgg ha, run_sizeOf hn], ?_⟩
      have hl := (hc.drop off).take n
      have he : ds.extract off (off + n) = ((ds.toList.drop off).take n).toArray := by
        apply Array.ext'
        rw [Array.toList_extract, List.extract_eq_take_drop, Nat.add_sub_cancel_left]
      rw [he]
      exact .agg (by rw [List.size_toArray, List.size_toArray]; exact hl.1) fun i u v hu hv => hl.2 i u v (by rw [List.getElem?_toArray] at hu; exact hu) (by rw [List.getElem?_toArray] at hv; exact hv)
    · cases hp
  · rename_i ha
    obtain ⟨v, hv, hr⟩ := hc.get hp
    have hv' : ds[off]? = some v := by simpa using hv
    exact ⟨v, fun w => by simp [part, run_isAgg ha, hv'], hr⟩
  · cases hp

theorem VRel.agg_inv {m : Pl} {h : AHeap} {cs : Array Value} {v : Value} (hr : VRel m h (.agg cs) v) : ∃ ds, v = .agg ds ∧ LRel m h cs.toList ds.toList := by
  cases hr with
  | same hg => exact ⟨cs, rfl, LRel.same (by cases cs; simpa [ground, groundA] using hg)⟩
  | agg hx hpx => exact ⟨_, rfl, ARel.list ⟨hx, hpx⟩⟩

theorem VRel.tuple_inv {m : Pl} {h : AHeap} {cs : Array Value} {v : Value} (hr : VRel m h (.tuple cs) v) : ∃ ds, v = .tuple ds ∧ LRel m h cs.toList ds.toList := by
  cases hr with
  | same hg => exact ⟨cs, rfl, LRel.same (by cases cs; simpa [ground, groundA] using hg)⟩
  | tuple hx hpx => exact ⟨_, rfl, ARel.list ⟨hx, hpx⟩⟩

theorem VRel.ptr_inv {m : Pl} {h : AHeap} {a : Addr} {v : Value} (hr : VRel m h (.pointer (some a)) v) : ∃ a', v = .pointer (some a') := by
  cases hr with
  | same _ => exact ⟨_, rfl⟩
  | ptr _ _ _ => exact ⟨_, rfl⟩

theorem VRel.slc_inv {m : Pl} {h : AHeap} {a : Addr} {n c : Nat} {v : Value} (hr : VRel m h (.slice (some a) n c) v) : ∃ a' c', v = .slice (some a') n c' := by
  cases hr with
  | same _ => exact ⟨_, _, rfl⟩
  | slc _ _ _ _ => exact ⟨_, _, rfl⟩

/-- An address some cells on. -/
def aadd (a : Addr) (n : Nat) : Addr := { a with off := a.off + n }

theorem VRel.ptr_aadd {m : Pl} {h : AHeap} {a a' : Addr} (hr : VRel m h (.pointer (some a)) (.pointer (some a'))) (n : Nat) :
    VRel m h (.pointer (some (aadd a n))) (.pointer (some (a'.add n))) := by
  cases hr with
  | same hg =>
    obtain ⟨b, off, spot⟩ := a
    simp only [ground, Option.isNone_iff_eq_none] at hg
    subst hg
    rw [add_lit]
    exact .same rfl
  | ptr ho hle hv => exact .ptr ho hle fun e => by rw [hv e, add_lit]

/-- Into a slice of at least one element. -/
theorem VRel.slc_at {m : Pl} {h : AHeap} {a a' : Addr} {n c c' : Nat} (hr : VRel m h (.slice (some a) n c) (.slice (some a') n c')) (hn : 0 < n) :
    VRel m h (.pointer (some a)) (.pointer (some a')) := by
  cases hr with
  | same hg => exact .same (by simpa [ground] using hg)
  | slc ho hle hc hv =>
    refine .ptr ho hle fun e => ?_
    obtain ⟨h3, _⟩ := hv e
    exact h3 (by omega)

/-- The cells of an aggregate that is made of parts. -/
def wr (l : List Value) (off : Nat) : List Value → List Value
  | [] => l
  | u :: us => wr (l.set off u) (off + 1) us

theorem wr_length (us : List Value) : ∀ (l : List Value) (off : Nat), (wr l off us).length = l.length := by
  induction us with
  | nil => intro l off; rfl
  | cons u us ih => intro l off; simp [wr, ih]

theorem wr_rel {m : Pl} {h : AHeap} : ∀ (us vs : List Value) {x y : List Value} (off : Nat), LRel m h x y → LRel m h us vs → LRel m h (wr x off us) (wr y off vs) := by
  intro us
  induction us with
  | nil => intro vs x y off hx hu; cases vs with
    | nil => exact hx
    | cons v vs => have := hu.1; simp at this
  | cons u us ih => intro vs x y off hx hu; cases vs with
    | nil => have := hu.1; simp at this
    | cons v vs => exact ih vs (off + 1) (hx.set hu.head off) hu.tail

def afill (place : Nat → Option (Nat × Nat)) (cells : List Value) : List (Nat × Value) → Option (List Value)
  | [] => some cells
  | (i, v) :: rest =>
    match place i with
    | none => none
    | some (off, size) =>
      if v.cells.toList.length = size ∧ off + size ≤ cells.length then afill place (wr cells off v.cells.toList) rest else none

theorem foldl_wr (us : List Value) : ∀ (k off : Nat) (cs : Array Value),
    ((us.zipIdx k).foldl (fun cs (c, j) => cs.setIfInBounds (off + j) c) cs).toList = wr cs.toList (off + k) us := by
  induction us with
  | nil => intro k off cs; rfl
  | cons u us ih =>
    intro k off cs
    simp only [List.zipIdx_cons, List.foldl_cons, wr]
    rw [ih]
    simp [Array.toList_setIfInBounds, Nat.add_assoc]

theorem fill_sound {m : Pl} {h : AHeap} (place : Nat → Option (Nat × Nat)) : ∀ (ps qs : List (Nat × Value)) {cells us : List Value} {ds : Array Value}, LRel m h cells ds.toList →
    ps.map (·.1) = qs.map (·.1) → LRel m h (ps.map (·.2)) (qs.map (·.2)) → afill place cells ps = some us →
    ∃ vs, Instr.fill place ds qs = some vs ∧ LRel m h us vs.toList := by
  intro ps
  induction ps with
  | nil =>
    intro qs cells us ds hc hi hp hf
    cases qs with
    | nil => cases hf; exact ⟨ds, rfl, hc⟩
    | cons q qs => simp at hi
  | cons p ps ih =>
    intro qs cells us ds hc hi hp hf
    cases qs with
    | nil => simp at hi
    | cons q qs =>
      obtain ⟨i, u⟩ := p
      obtain ⟨j, v⟩ := q
      simp only [List.map_cons, List.cons.injEq] at hi
      obtain ⟨rfl, hi⟩ := hi
      have hu : VRel m h u v := hp.head
      have hcs := hu.cells
      simp only [afill] at hf
      simp only [Instr.fill]
      cases hpl : place i with
      | none => simp [hpl] at hf
      | some os =>
        obtain ⟨off, size⟩ := os
        simp only [hpl] at hf ⊢
        split at hf
        · rename_i hc1
          have h1 : v.cells.size = size := by rw [← hcs.1]; simpa using hc1.1
          have h2 : ds.size = cells.length := by have := hc.1; simp at this; omega
          rw [if_neg (by simp [h1, h2]; omega)]
          refine ih qs ?_ hi hp.tail hf
          have e : (v.cells.zipIdx.foldl (fun cs (x : Value × Nat) => match x with | (c, j) => cs.setIfInBounds (off + j) c) ds).toList = wr ds.toList off v.cells.toList := by
            rw [← Array.foldl_toList]
            have := foldl_wr v.cells.toList 0 off ds
            simpa using this
          rw [e]
          exact wr_rel _ _ off hc hcs.list
        · cases hf

/-- The parts of a composite, evaluated. -/
def aparts (ρ : Operand → Option Value) : List (Nat × Operand) → Option (List (Nat × Value))
  | [] => some []
  | (i, x) :: r => match ρ x, aparts ρ r with
    | some u, some us => some ((i, u) :: us)
    | _, _ => none

theorem aparts_sound {m : Pl} {h : AHeap} {ρ : Operand → Option Value} {σ : Operand → Value} (hρ : ∀ x u, ρ x = some u → VRel m h u (σ x)) :
    ∀ (l : List (Nat × Operand)) (ps : List (Nat × Value)), aparts ρ l = some ps →
      ps.map (·.1) = (l.map fun p => (p.1, σ p.2)).map (·.1) ∧ LRel m h (ps.map (·.2)) ((l.map fun p => (p.1, σ p.2)).map (·.2)) := by
  intro l
  induction l with
  | nil => intro ps hp; cases hp; exact ⟨rfl, .nil m h⟩
  | cons p l ih =>
    intro ps hp
    obtain ⟨i, x⟩ := p
    simp only [aparts] at hp
    split at hp
    · rename_i u us hu hus
      cases hp
      obtain ⟨h1, h2⟩ := ih us hus
      exact ⟨by simp at h1 ⊢; exact h1, .cons (hρ x u hu) h2⟩
    · cases hp

/-- Several operands, evaluated. -/
def avals (ρ : Operand → Option Value) : List Operand → Option (List Value)
  | [] => some []
  | x :: r => match ρ x, avals ρ r with
    | some u, some us => some (u :: us)
    | _, _ => none

theorem avals_sound {m : Pl} {h : AHeap} {ρ : Operand → Option Value} {σ : Operand → Value} (hρ : ∀ x u, ρ x = some u → VRel m h u (σ x)) :
    ∀ (l : List Operand) (us : List Value), avals ρ l = some us → LRel m h us (l.map σ) := by
  intro l
  induction l with
  | nil => intro us hp; cases hp; exact .nil m h
  | cons x l ih =>
    intro us hp
    simp only [avals] at hp
    split at hp
    · rename_i u us hu hus
      cases hp
      exact .cons (hρ x u hu) (ih us hus)
    · cases hp

/-- The places of a type's parts. -/
def aplaces (P : Program) (t : TypeId) : Option (Nat → Option (Nat × Nat)) :=
  match P.underlying t with
  | some (.array _ e) => (szOf P e).map fun n i => some (i * n, n)
  | some (.struct fs) =>
    match sizes fs.toList with
    | some l => some fun i => l[i]?
    | none => none
  | _ => none
  where
  sizes : List Field → Option (List (Nat × Nat))
    | [] => some []
    | f :: r => match szOf P f.type, sizes r with
      | some n, some l => some ((f.offset, n) :: l)
      | _, _ => none

theorem sizes_sound {P : Program} (w : World) : ∀ (fs : List Field) (l : List (Nat × Nat)), aplaces.sizes P fs = some l →
    (fs.mapM fun f => (do pure (f.offset, ← sizeOf f.type) : Sem (Nat × Nat))).run P w = .ok l w := by
  intro fs
  induction fs with
  | nil => intro l h; cases h; rfl
  | cons f fs ih =>
    intro l h
    simp only [aplaces.sizes] at h
    split at h
    · rename_i n l' hn hl
      cases h
      rw [List.mapM_cons]
      simp only [Sem.run_bind, run_sizeOf hn, Result.andThen_ok, Sem.run_pure, ih l' hl]
    · cases h

def zeroOf (P : Program) (t : TypeId) : Option (List Value) :=
  match P.info? t with
  | some i => match i.zero with
    | some z => if groundL z.cells.toList then some z.cells.toList else none
    | none => none
  | none => none

theorem run_zero {P : Program} {t : TypeId} {z : List Value} (h : zeroOf P t = some z) : ∃ v, (∀ w, (zeroValue t).run P w = .ok v w) ∧ v.cells.toList = z ∧ groundL z = true := by
  unfold zeroOf at h
  split at h
  · rename_i i hi
    split at h
    · rename_i v hv
      split at h
      · rename_i hg
        cases h
        exact ⟨v, fun w => by simp [zeroValue, typeInfo, hi, hv], rfl, hg⟩
      · cases h
    · cases h
  · cases h

/-- Are two variables equal, cell by cell? -/
def aeqFs (P : Program) (eq : TypeId → Value → Value → Option Bool) (xs ys : List Value) : List Field → Option Bool
  | [] => some true
  | f :: fs => if f.name ≠ "_" then match apart P f.type xs f.offset, apart P f.type ys f.offset with
      | some a, some b => match eq f.type a b, aeqFs P eq xs ys fs with
        | some r, some c => some (r && c)
        | _, _ => none
      | _, _ => none
    else aeqFs P eq xs ys fs

def aeqIs (P : Program) (eq : TypeId → Value → Value → Option Bool) (e : TypeId) (n : Nat) (xs ys : List Value) : List Nat → Option Bool
  | [] => some true
  | i :: is => match apart P e xs (i * n), apart P e ys (i * n) with
      | some a, some b => match eq e a b, aeqIs P eq e n xs ys is with
        | some r, some c => some (r && c)
        | _, _ => none
      | _, _ => none

def aeq (P : Program) : Nat → TypeId → Value → Value → Option Bool
  | 0, _, _, _ => none
  | d + 1, t, x, y => match P.underlying t with
    | some .bool => match x, y with
      | .bool a, .bool b => some (a == b)
      | _, _ => none
    | some (.int _) => match x, y with
      | .int k1 a, .int k2 b => if k1 = k2 then some (a == b) else none
      | _, _ => none
    | some (.struct fs) => match x, y with
      | .agg ⟨xs⟩, .agg ⟨ys⟩ => if P.stoodInHeld t then none else aeqFs P (aeq P d) xs ys fs.toList
      | _, _ => none
    | some (.array n e) => match x, y with
      | .agg ⟨xs⟩, .agg ⟨ys⟩ => if (P.info? e).isSome then aeqIs P (aeq P d) e (P.cellsOf e) xs ys (List.range n) else none
      | _, _ => none
    | _ => none

theorem apart_exact {P : Program} {t : TypeId} {cs : List Value} {off : Nat} {u : Value} (hg : groundL cs = true) (hp : apart P t cs off = some u) (w : World) : (part t ⟨cs⟩ off).run P w = .ok u w ∧ ground u = true := by
  have hu : ground u = true := by
    unfold apart at hp
    split at hp
    · split at hp
      · cases hp
        show groundL ((cs.drop off).take _) = true
        rw [groundL_iff] at *
        exact fun v hv => hg v (List.mem_of_mem_drop (List.mem_of_mem_take hv))
      · cases hp
    · exact groundL_get hg hp
    · cases hp
  obtain ⟨v, h1, h2⟩ := apart_sound (P := P) (m := fun _ => (0, 0)) (h := []) (ds := ⟨cs⟩) (LRel.same hg) hp
  rw [h2.eq hu] at h1
  exact ⟨h1 w, hu⟩

theorem aeq_run {P : Program} : ∀ (d : Nat) {t : TypeId} {x y : Value} {b : Bool}, ground x = true → ground y = true → aeq P d t x y = some b → ∀ (D : Nat), d ≤ D → ∀ w : World, (Op.equalIn D t x y).run P w = .ok b w := by
  intro d
  induction d with
  | zero => intro t x y b _ _ h; cases h
  | succ d ih =>
    intro t x y b hx hy h D hD w
    obtain ⟨D, rfl⟩ : ∃ D', D = D' + 1 := ⟨D - 1, by omega⟩
    have hD' : d ≤ D := by omega
    simp only [aeq] at h
    split at h
    · rename_i hu
      split at h
      · cases h; exact run_equalIn_bool w D t _ _ hu
      · cases h
    · rename_i k hu
      split at h
      · rename_i k1 a k2 b2
        split at h
        · rename_i hk
          cases h
          subst hk
          exact run_equalIn_int w D t k1 k _ _ hu
        · cases h
      · cases h
    · rename_i fs hu
      split at h
      · rename_i xs ys
        split at h
        · cases h
        · rename_i hp
          have hf : P.fieldsOf t = fs := by simp [Program.fieldsOf, hu]
          rw [run_equalIn_struct w D t _ _ (by rw [hf]; exact hu) (by simpa using hp), hf]
          have hgx : groundL xs = true := hx
          have hgy : groundL ys = true := hy
          have key : ∀ (l : List Field) (b : Bool), aeqFs P (aeq P d) xs ys l = some b → ∀ w, (Op.eqFields D ⟨xs⟩ ⟨ys⟩ l).run P w = .ok b w := by
            intro l
            induction l with
            | nil => intro b h w; cases h; rfl
            | cons f l ihl =>
              intro b h w
              simp only [aeqFs] at h
              simp only [Op.eqFields]
              split at h
              · rename_i hn
                rw [if_pos hn]
                split at h
                · rename_i a c ha hc
                  split at h
                  · rename_i r q hr hq
                    cases h
                    obtain ⟨p1, g1⟩ := apart_exact hgx ha w
                    obtain ⟨p2, g2⟩ := apart_exact hgy hc w
                    simp only [Sem.run_bind, p1, p2, Result.andThen_ok, ih g1 g2 hr D hD' w]
                    cases r with
                    | true => simpa using ihl q hq w
                    | false => simp
                  · cases h
                · cases h
              · rename_i hn
                rw [if_neg hn]
                exact ihl b h w
          exact key _ _ h w
      · cases h
    · rename_i n e hu
      split at h
      · rename_i xs ys
        split at h
        · rename_i hi
          obtain ⟨i, hi⟩ := Option.isSome_iff_exists.1 hi
          rw [run_equalIn_array w D _ _ hu hi]
          have hgx : groundL xs = true := hx
          have hgy : groundL ys = true := hy
          have key : ∀ (l : List Nat) (b : Bool), aeqIs P (aeq P d) e (P.cellsOf e) xs ys l = some b → ∀ w, (Op.eqItems D e (P.cellsOf e) ⟨xs⟩ ⟨ys⟩ l).run P w = .ok b w := by
            intro l
            induction l with
            | nil => intro b h w; cases h; rfl
            | cons f l ihl =>
              intro b h w
              simp only [aeqIs] at h
              simp only [Op.eqItems]
              split at h
              · rename_i a c ha hc
                split at h
                · rename_i r q hr hq
                  cases h
                  obtain ⟨p1, g1⟩ := apart_exact hgx ha w
                  obtain ⟨p2, g2⟩ := apart_exact hgy hc w
                  simp only [Sem.run_bind, p1, p2, Result.andThen_ok, ih g1 g2 hr D hD' w]
                  cases r with
                  | true => simpa using ihl q hq w
                  | false => simp
                · cases h
              · cases h
          exact key _ _ h w
        · cases h
      · cases h
    · cases h

/-- An operation on two values. -/
def bo (P : Program) (op : BinOp) (t : TypeId) (x y : Operand) (u v : Value) : Option Value :=
  match op, u, v with
  | .eql, .agg xs, .agg ys => if P.eqGuardType P.depth t then none else match aeq P 20 t (.agg xs) (.agg ys) with
    | some b => some (.bool b)
    | none => none
  | .neq, .agg xs, .agg ys => if P.eqGuardType P.depth t then none else match aeq P 20 t (.agg xs) (.agg ys) with
    | some b => some (.bool (!b))
    | none => none
  | op, u, v => gr (peval P (do eqGuard op t x y u v; binOp op t u v))

theorem bo_run {P : Program} {op : BinOp} {t : TypeId} {x y : Operand} {u v r : Value} (hu : ground u = true) (hv : ground v = true) (h : bo P op t x y u v = some r) :
    (∀ w, (do eqGuard op t x y u v; binOp op t u v : Sem Value).run P w = .ok r w) ∧ ground r = true := by
  unfold bo at h
  split at h
  · rename_i xs ys
    split at h
    · cases h
    · rename_i hg
      split at h
      · rename_i b hb
        cases h
        refine ⟨fun w => ?_, rfl⟩
        have he := aeq_run 20 hu hv hb 10000 (by omega) w
        have hgd : (eqGuard .eql t x y (.agg xs) (.agg ys)).run P w = .ok () w := by
          simp only [eqGuard, Sem.run_bind, run_program, Result.andThen_ok]
          simp [hg]
        simp only [Sem.run_bind, hgd, Result.andThen_ok]
        rw [run_eql_struct, he]
        rfl
      · cases h
  · rename_i xs ys
    split at h
    · cases h
    · rename_i hg
      split at h
      · rename_i b hb
        cases h
        refine ⟨fun w => ?_, rfl⟩
        have he := aeq_run 20 hu hv hb 10000 (by omega) w
        have hgd : (eqGuard .neq t x y (.agg xs) (.agg ys)).run P w = .ok () w := by
          simp only [eqGuard, Sem.run_bind, run_program, Result.andThen_ok]
          simp [hg]
        simp only [Sem.run_bind, hgd, Result.andThen_ok]
        rw [run_neq_struct, he]
        rfl
      · cases h
  · obtain ⟨h1, h2⟩ := gr_some h
    exact ⟨fun w => peval_run _ h1 w, h2⟩

/-- Operations that touch no memory. -/
def pv (P : Program) (ρ : Operand → Option Value) : Op → Option Value
  | .move x | .assign x => ρ x
  | .pick c a b => match ρ c, ρ a, ρ b with
    | some (.bool t), some u, some v => some (if t then u else v)
    | _, _, _ => none
  | .build t parts => match aplaces P t, zeroOf P t, aparts ρ parts.toList with
    | some pl, some z, some ps => match afill pl z ps with
      | some cs => some (.agg ⟨cs⟩)
      | none => none
    | _, _, _ => none
  | .nilCheck x => match ρ x with
    | some (.pointer (some a)) => some (.pointer (some a))
    | some (.func (.func f) y z) => some (.func (.func f) y z)
    | _ => none
  | .binOp op t x y _ => match ρ x, ρ y with
    | some u, some v => if ground u && ground v then bo P op t x y u v else none
    | _, _ => none
  | .unOp op _ x => match ρ x with
    | some u => if ground u then gr (peval P (Op.unary op u)) else none
    | none => none
  | .convert s d x => match ρ x with
    | some u => if ground u then gr (peval P (convert s d u)) else none
    | none => none
  | .sliceToArrayPointer t x => match P.underlying t, ρ x with
    | some (.array n _), some (.slice (some a) len _) => if 0 < n ∧ n ≤ len then some (.pointer (some a)) else none
    | _, _ => none
  | .makeInterface t x => match P.underlying t, ρ x with
    | some (.interface _), _ => none
    | some _, some u => some (.iface t u)
    | _, _ => none
  | .makeFunc fn first cap => match avals ρ first.toList, avals ρ cap.toList with
    | some us, some vs => some (.func fn ⟨us⟩ ⟨vs⟩)
    | _, _ => none
  | .fieldAddr t x f => match P.underlying t, ρ x with
    | some (.struct fs), some (.pointer (some a)) => match fs.toList[f]? with
      | some fl => match szOf P fl.type with
        | some (_ + 1) => some (.pointer (some (aadd a fl.offset)))
        | _ => none
      | none => none
    | _, _ => none
  | .field t x f => match P.underlying t, ρ x with
    | some (.struct fs), some (.agg cs) => match fs.toList[f]? with
      | some fl => apart P fl.type cs.toList fl.offset
      | none => none
    | _, _ => none
  | .indexAddr t x i => match P.underlying t, ρ x, ρ i with
    | some (.array len e), some (.pointer (some a)), some (.int _ k) => match szOf P e with
      | some n => if 0 ≤ k ∧ k < (len : Int) then some (.pointer (some (aadd a (k.toNat * n)))) else none
      | none => none
    | some (.slice e), some (.slice (some a) len _), some (.int _ k) => match szOf P e with
      | some n => if 0 ≤ k ∧ k < (len : Int) then some (.pointer (some (aadd a (k.toNat * n)))) else none
      | none => none
    | _, _, _ => none
  | .index t x i => match P.underlying t, ρ x, ρ i with
    | some (.array len e), some (.agg cs), some (.int _ k) => match szOf P e with
      | some n => if 0 ≤ k ∧ k < (len : Int) then apart P e cs.toList (k.toNat * n) else none
      | none => none
    | some .string, some (.string s), some (.int _ k) => if 0 ≤ k then match s.data.toList[k.toNat]? with
      | some b => some (.int .u8 b.toNat)
      | none => none
      else none
    | _, _, _ => none
  | .extract x i => match ρ x with
    | some (.tuple vs) => vs.toList[i]?
    | _ => none
  | .slice t x lo hi none => match ρ x with
    | some (.string s) => match optv lo, optv hi with
      | some l, some h => gr (peval P (Instr.sliceAt t (.string s) l h none))
      | _, _ => none
    | _ => none
  | .call ⟨.builtin .len, ⟨[x]⟩, ⟨[t]⟩⟩ => match P.underlying t, ρ x with
    | some (.slice _), some (.slice _ n _) => some (.int .i64 n)
    | some .string, some (.string s) => some (.int .i64 s.size)
    | some (.array n _), some _ => some (.int .i64 n)
    | some (.pointer e), some _ => match P.underlying e with
      | some (.array n _) => some (.int .i64 n)
      | _ => none
    | _, _ => none
  | .call ⟨.builtin .max, ⟨[x, y]⟩, _⟩ => match ρ x, ρ y with
    | some (.int k a), some (.int _ b) => some (.int k (if b > a then b else a))
    | _, _ => none
  | .call ⟨.builtin .min, ⟨[x, y]⟩, _⟩ => match ρ x, ρ y with
    | some (.int k a), some (.int _ b) => some (.int k (if b < a then b else a))
    | _, _ => none
  | _ => none
  where
  optv : Option Operand → Option (Option Value)
    | none => some none
    | some x => match ρ x with
      | some (.int k n) => some (some (.int k n))
      | _ => none

end Go.Ab

namespace Go.Ab

section
variable {P : Program} {m : Pl} {h : AHeap} {ρ : Operand → Option Value} {σ : Operand → Value}

theorem gr_peval {e : Sem Value} {u : Value} (hg : gr (peval P e) = some u) : (∀ w, e.run P w = .ok u w) ∧ ground u = true := by
  obtain ⟨h1, h2⟩ := gr_some hg
  exact ⟨peval_run e h1, h2⟩

theorem optv_sound (hρ : ∀ x u, ρ x = some u → VRel m h u (σ x)) {lo : Option Operand} {l : Option Value} (hl : pv.optv ρ lo = some l) : lo.map σ = l := by
  cases lo with
  | none => simp [pv.optv] at hl; subst hl; rfl
  | some x =>
    simp only [pv.optv] at hl
    split at hl
    · rename_i k n hx
      cases hl
      rw [Option.map_some, (hρ _ _ hx).int]
    · cases hl

set_option maxHeartbeats 1000000 in
theorem pv_sound (hρ : ∀ x u, ρ x = some u → VRel m h u (σ x)) {o : Oper} {u : Value} (hp : pv P ρ o.op = some u) :
    ∃ v, VRel m h u v ∧ ∀ w, (execOp σ o).run P w = .ok (.value v) w := by
  obtain ⟨dst, op, type, pos, after, guard⟩ := o
  simp only at hp
  unfold pv at hp
  split at hp
  · exact ⟨_, hρ _ _ hp, fun w => rfl⟩
  · exact ⟨_, hρ _ _ hp, fun w => rfl⟩
  · -- pick
    rename_i xc xa xb
    split at hp
    · rename_i t u v hc ha hb
      cases hp
      have hc := (hρ _ _ hc).bool
      refine ⟨if t then σ xa else σ xb, ?_, fun w => ?_⟩
      · cases t
        · exact hρ _ _ hb
        · exact hρ _ _ ha
      · simp only [execOp, hc, asBool, Sem.run_bind, Sem.run_pure, Result.andThen_ok]
    · cases hp
  · -- build
    rename_i t parts
    split at hp
    · rename_i pl z ps hpl hz hps
      split at hp
      · rename_i cs hcs
        cases hp
        obtain ⟨zv, hzr, hzc, hzg⟩ := run_zero hz
        obtain ⟨h1, h2⟩ := aparts_sound hρ _ _ hps
        have hz0 : LRel m h z zv.cells.toList := by rw [hzc]; exact LRel.same hzg
        obtain ⟨vs, hvs, hvr⟩ := fill_sound pl ps (parts.toList.map fun p => (p.1, σ p.2)) hz0 h1 h2 hcs
        have hpe : (parts.map fun x => match x with | (i, x) => (i, σ x)).toList = parts.toList.map fun p => (p.1, σ p.2) := by simp
        refine ⟨.agg vs, .agg (by simpa using hvr.1) fun i a b ha hb => hvr.2 i a b (by simpa using ha) (by simpa using hb), fun w => ?_⟩
        simp only [execOp, Sem.run_bind, Instr.build, hzr, Result.andThen_ok, hpe]
        unfold aplaces at hpl
        split at hpl
        · rename_i n e hu
          cases hs : szOf P e with
          | none => simp [hs] at hpl
          | some k =>
            simp [hs] at hpl
            subst hpl
            simp [run_underlying hu, run_sizeOf hs, hvs]
        · rename_i fs hu
          split at hpl
          · rename_i l hl
            simp at hpl
            subst hpl
            have hm := sizes_sound w fs.toList l hl
            have hm' : (fs.mapM fun f => (do pure (f.offset, ← sizeOf f.type) : Sem (Nat × Nat))).run P w = .ok l.toArray w := by
              rw [Array.mapM_eq_mapM_toList]
              simp only [Sem.run_map, hm, Result.andThen_ok]
            have hfun : (fun i => (l.toArray)[i]?) = fun i : Nat => l[i]? := by funext i; simp
            simp only [run_underlying hu, Result.andThen_ok, Sem.run_bind, hm', hfun, hvs, Sem.run_pure]
          · cases hpl
        · cases hpl
      · cases hp
    · cases hp
  · -- nilCheck
    rename_i x
    split at hp
    · rename_i a hx
      cases hp
      obtain ⟨a', ha⟩ := (hρ _ _ hx).ptr_inv
      exact ⟨_, hρ _ _ hx, fun w => by simp [execOp, ha]⟩
    · rename_i f y z hx
      cases hp
      have hr := hρ _ _ hx
      refine ⟨_, hr, fun w => ?_⟩
      generalize hv : σ x = v at hr
      cases hr <;> simp [execOp, hv]
    · cases hp
  · -- binOp
    rename_i op t x y yt
    split at hp
    · rename_i u1 v1 hx hy
      split at hp
      · rename_i hg
        simp only [Bool.and_eq_true] at hg
        obtain ⟨hrun, hgr⟩ := bo_run hg.1 hg.2 hp
        refine ⟨_, .same hgr, fun w => ?_⟩
        have e1 := (hρ _ _ hx).eq hg.1
        have e2 := (hρ _ _ hy).eq hg.2
        have := hrun w
        simp only [Sem.run_bind] at this
        simp only [execOp, e1, e2, Sem.run_bind]
        rw [this]
        rfl
      · cases hp
    · cases hp
  · -- unOp
    rename_i op t x
    split at hp
    · rename_i u1 hx
      split at hp
      · rename_i hg
        obtain ⟨hrun, hgr⟩ := gr_peval hp
        refine ⟨_, .same hgr, fun w => ?_⟩
        have e1 := (hρ _ _ hx).eq hg
        simp only [execOp, e1, Sem.run_bind, hrun w]
        rfl
      · cases hp
    · cases hp
  · -- convert
    rename_i s d x
    split at hp
    · rename_i u1 hx
      split at hp
      · rename_i hg
        obtain ⟨hrun, hgr⟩ := gr_peval hp
        refine ⟨_, .same hgr, fun w => ?_⟩
        have e1 := (hρ _ _ hx).eq hg
        simp only [execOp, e1, Sem.run_bind, hrun w]
        rfl
      · cases hp
    · cases hp
  · -- sliceToArrayPointer
    rename_i t x
    split at hp
    · rename_i n e a len c hu hx
      split at hp
      · rename_i hn
        cases hp
        have hr := hρ _ _ hx
        obtain ⟨a', c', hv⟩ := hr.slc_inv
        rw [hv] at hr
        refine ⟨_, hr.slc_at (by omega), fun w => ?_⟩
        simp [execOp, hv, Instr.arrayAt, run_underlying hu, show ¬ len < n by omega]
      · cases hp
    · cases hp
  · -- makeInterface
    rename_i t x
    split at hp
    · cases hp
    · rename_i d u1 hne hu hx
      cases hp
      refine ⟨_, .iface (hρ _ _ hx), fun w => ?_⟩
      simp only [execOp, Instr.makeInterface, Sem.run_bind, run_underlying hu, Result.andThen_ok]
      rfl
    · cases hp
  · -- makeFunc
    rename_i fn first cap
    split at hp
    · rename_i us vs hus hvs
      cases hp
      have h1 := (avals_sound hρ _ _ hus).arr
      have h2 := (avals_sound hρ _ _ hvs).arr
      refine ⟨.func fn (first.map σ) (cap.map σ), .func (by simpa using h1.1) (fun i a b ha hb => h1.2 i a b ha (by simpa using hb)) (by simpa using h2.1) (fun i a b ha hb => h2.2 i a b ha (by simpa using hb)), fun w => rfl⟩
    · cases hp
  · -- fieldAddr
    rename_i t x f
    split at hp
    · rename_i fs a hu hx
      split at hp
      · rename_i fl hfl
        split at hp
        · rename_i n hn
          cases hp
          have hr := hρ _ _ hx
          obtain ⟨a', hv⟩ := hr.ptr_inv
          rw [hv] at hr
          refine ⟨_, hr.ptr_aadd fl.offset, fun w => ?_⟩
          have hfl' : fs[f]? = some fl := by simpa using hfl
          simp [execOp, hv, Instr.fieldAt, run_underlying hu, hfl', Instr.sureAddr, fieldPlace, run_sizeOf hn]
        · cases hp
      · cases hp
    · cases hp
  · -- field
    rename_i t x f
    split at hp
    · rename_i fs cs hu hx
      split at hp
      · rename_i fl hfl
        have hr := hρ _ _ hx
        obtain ⟨ds, hv, hl⟩ := hr.agg_inv
        obtain ⟨v, hrun, hvr⟩ := apart_sound hl hp
        have hfl' : fs[f]? = some fl := by simpa using hfl
        refine ⟨v, hvr, fun w => ?_⟩
        simp [execOp, hv, Instr.field, run_underlying hu, hfl', asAgg, hrun]
      · cases hp
    · cases hp
  · -- indexAddr
    rename_i t x i
    split at hp
    · rename_i len e a kk k hu hx hi
      split at hp
      · rename_i n hn
        split at hp
        · rename_i hk
          cases hp
          have hr := hρ _ _ hx
          obtain ⟨a', hv⟩ := hr.ptr_inv
          rw [hv] at hr
          have hi' := (hρ _ _ hi).int
          refine ⟨_, hr.ptr_aadd _, fun w => ?_⟩
          simp [execOp, hv, hi', Instr.indexAt, asIntOf, run_underlying hu, Instr.sureAddr, hk.1, hk.2, run_sizeOf hn]
        · cases hp
      · cases hp
    · rename_i e a len c kk k hu hx hi
      split at hp
      · rename_i n hn
        split at hp
        · rename_i hk
          cases hp
          have hr := hρ _ _ hx
          obtain ⟨a', c', hv⟩ := hr.slc_inv
          rw [hv] at hr
          have hi' := (hρ _ _ hi).int
          refine ⟨_, (hr.slc_at (by omega)).ptr_aadd _, fun w => ?_⟩
          simp [execOp, hv, hi', Instr.indexAt, asIntOf, run_underlying hu, hk.1, hk.2, run_sizeOf hn]
        · cases hp
      · cases hp
    · cases hp
  · -- index
    rename_i t x i
    split at hp
    · rename_i len e cs kk k hu hx hi
      split at hp
      · rename_i n hn
        split at hp
        · rename_i hk
          have hr := hρ _ _ hx
          obtain ⟨ds, hv, hl⟩ := hr.agg_inv
          obtain ⟨v, hrun, hvr⟩ := apart_sound hl hp
          have hi' := (hρ _ _ hi).int
          refine ⟨v, hvr, fun w => ?_⟩
          simp [execOp, hv, hi', Instr.index, asIntOf, run_underlying hu, hk.1, hk.2, run_sizeOf hn, hrun]
        · cases hp
      · cases hp
    · rename_i s kk k hu hx hi
      split at hp
      · rename_i hk
        split at hp
        · rename_i b hb
          cases hp
          have hx' := (hρ _ _ hx).eq rfl
          have hi' := (hρ _ _ hi).int
          refine ⟨_, .same rfl, fun w => ?_⟩
          have hb' : s[k.toNat]? = some b := by
            have h1 := (List.getElem?_eq_some_iff.1 hb).1
            have h2 := (List.getElem?_eq_some_iff.1 hb).2
            have h3 : k.toNat < s.size := by simpa using h1
            rw [getElem?_pos s k.toNat h3]
            rw [← h2]
            rfl
          simp [execOp, hx', hi', Instr.index, asIntOf, run_underlying hu, hk, hb']
        · cases hp
      · cases hp
    · cases hp
  · -- extract
    rename_i x i
    split at hp
    · rename_i vs hx
      obtain ⟨ds, hv, hl⟩ := (hρ _ _ hx).tuple_inv
      obtain ⟨v, hv', hr⟩ := hl.get hp
      have hv'' : ds[i]? = some v := by simpa using hv'
      exact ⟨v, hr, fun w => by simp [execOp, hv, Instr.extract, hv'']⟩
    · cases hp
  · -- slice of a string
    rename_i t x lo hi
    split at hp
    · rename_i s hx
      split at hp
      · rename_i l r hl hr
        obtain ⟨hrun, hgr⟩ := gr_peval hp
        have hx' := (hρ _ _ hx).eq rfl
        refine ⟨_, .same hgr, fun w => ?_⟩
        simp only [execOp, hx', optv_sound hρ hl, optv_sound hρ hr, Sem.run_bind, Option.map_none, hrun w]
        rfl
      · cases hp
    · cases hp
  · -- len
    rename_i x t
    split at hp
    · rename_i e a n c hu hx
      cases hp
      refine ⟨_, .same rfl, fun w => ?_⟩
      have hr := hρ _ _ hx
      have hv : ∃ a' c', σ x = .slice a' n c' := by
        cases a with
        | none => exact ⟨none, c, hr.eq rfl⟩
        | some a => obtain ⟨a', c', h1⟩ := hr.slc_inv; exact ⟨_, _, h1⟩
      obtain ⟨a', c', hv⟩ := hv
      simp [execOp, resolve, invoke, builtin, hv, Builtin.len_, run_underlying hu, goInt]
    · rename_i s hu hx
      cases hp
      refine ⟨_, .same rfl, fun w => ?_⟩
      have hx' := (hρ _ _ hx).eq rfl
      simp [execOp, resolve, invoke, builtin, hx', Builtin.len_, run_underlying hu, goInt]
    · rename_i n e v hu hx
      cases hp
      refine ⟨_, .same rfl, fun w => ?_⟩
      simp [execOp, resolve, invoke, builtin, Builtin.len_, run_underlying hu, goInt]
    · rename_i e v hu hx
      split at hp
      · rename_i n e' hu'
        cases hp
        refine ⟨_, .same rfl, fun w => ?_⟩
        simp [execOp, resolve, invoke, builtin, Builtin.len_, run_underlying hu, run_underlying hu', goInt]
      · cases hp
    · cases hp
  · -- max
    rename_i x y ts
    split at hp
    · rename_i k a k' b hx hy
      cases hp
      have hx' := (hρ _ _ hx).int
      have hy' := (hρ _ _ hy).int
      refine ⟨_, .same rfl, fun w => ?_⟩
      simp [execOp, resolve, invoke, builtin, hx', hy', Builtin.max_, Builtin.max2]
    · cases hp
  · -- min
    rename_i x y ts
    split at hp
    · rename_i k a k' b hx hy
      cases hp
      have hx' := (hρ _ _ hx).int
      have hy' := (hρ _ _ hy).int
      refine ⟨_, .same rfl, fun w => ?_⟩
      simp [execOp, resolve, invoke, builtin, hx', hy', Builtin.min_, Builtin.min2]
    · cases hp
  · cases hp
end

end Go.Ab

namespace Go.Ab

/-- An operation on memory: the numbers of the objects that it reads alone, and of those that it may turn; what it makes of them (the number of the first new object given): value, objects turned, new objects. -/
structure AAct where
  rd : List Nat
  wt : List Nat
  f : Nat → List AObj → List AObj → Option (Value × List AObj × List AObj)

def gather (h : AHeap) : List Nat → Option (List AObj)
  | [] => some []
  | i :: r => match hget h i, gather h r with
    | some o, some os => some (o :: os)
    | _, _ => none

def scatter (h : AHeap) : List Nat → List AObj → AHeap
  | i :: r, o :: os => scatter (h.set i (some o)) r os
  | _, _ => h

def place (h : AHeap) (b : Nat) : List AObj → AHeap
  | [] => h
  | o :: r => place (hput h b o) (b + 1) r

def AAct.run (x : AAct) (b : Nat) (h : AHeap) : Option (Value × AHeap) :=
  match gather h x.rd, gather h x.wt with
  | some rs, some os => match x.f b rs os with
    | some (v, os', ns) => some (v, place (scatter h x.wt os') b ns)
    | none => none
  | _, _ => none

/-- How many new objects. -/
def AAct.cnt (x : AAct) (b : Nat) (h : AHeap) : Nat :=
  match gather h x.rd, gather h x.wt with
  | some rs, some os => match x.f b rs os with
    | some (_, _, ns) => ns.length
    | none => 0
  | _, _ => 0

/-- The operation o does this to the model's memory. -/
def OpOk (P : Program) (M : Mem) (o : Oper) (a : Go.Act) (m : Pl) (h : AHeap) (w : World) (v : Value) (h' : AHeap) : Prop :=
  ∀ (K : Go.Act → World → Prop) (Q : Exit → Go.Act → World → Prop),
    (∀ m' w' u, Tr M m h w m' h' w' → VRel m' h' v u → K (a.put o.dst u) w') → o.wp P a w K Q

theorem OpOk.of_value {P : Program} {M : Mem} {o : Oper} {a : Go.Act} {m m' : Pl} {h h' : AHeap} {w w' : World} {v u : Value}
    (hrun : (execOp a.eval o).run P w = .ok (.value u) w') (ht : Tr M m h w m' h' w') (hv : VRel m' h' v u) : OpOk P M o a m h w v h' := by
  intro K Q hk
  simp only [Oper.wp, hrun, Oper.upon]
  exact hk _ _ _ ht hv

theorem OpOk.of_skip {P : Program} {M : Mem} {o : Oper} {a : Go.Act} {m m' : Pl} {h h' : AHeap} {w w' : World}
    (hrun : (execOp a.eval o).run P w = .ok .skip w') (ht : Tr M m h w m' h' w') : OpOk P M o a m h w undef h' := by
  intro K Q hk
  simp only [Oper.wp, hrun, Oper.upon]
  exact hk _ _ _ ht (.same rfl)

/-- Room for new objects from number b on. -/
def Room (h : AHeap) (b n : Nat) : Prop := b ≤ h.length ∧ ∀ k, k < n → hget h (b + k) = none

theorem Room.end_ (h : AHeap) (n : Nat) : Room h h.length n := ⟨Nat.le_refl _, fun k _ => by simp [hget]⟩

/-- A variable's value, out of an object. -/
def oval (P : Program) (t : TypeId) (o : AObj) (sz off : Nat) : Option Value :=
  if o.cells.length = sz then match aggT P t with
    | some true => match szOf P t with
      | some n => if off + n ≤ sz then some (.agg ⟨(o.cells.drop off).take n⟩) else none
      | none => none
    | some false => o.cells[off]?
    | none => none
  else none

def rval (P : Program) (M : Mem) (t : TypeId) (b off : Nat) : Option Value :=
  match aggT P t with
  | some true => match szOf P t with
    | some n => match aload.roload M b off n with
      | some l => some (.agg ⟨l⟩)
      | none => none
    | none => none
  | some false => M b off
  | none => none

def loadAct (P : Program) (M : Mem) (t : TypeId) (a : Addr) : AAct :=
  match a.spot with
  | some sz => { rd := [a.block], wt := [], f := fun _ os _ => match os with
    | [o] => match oval P t o sz a.off with
      | some v => some (v, [], [])
      | none => none
    | _ => none }
  | none => { rd := [], wt := [], f := fun _ _ _ => match rval P M t a.block a.off with
    | some v => some (v, [], [])
    | none => none }

theorem gather_one {h : AHeap} {i : Nat} {os : List AObj} (hg : gather h [i] = some os) : ∃ o, hget h i = some o ∧ os = [o] := by
  simp only [gather] at hg
  split at hg
  · rename_i o os' ho hos
    cases hos
    cases hg
    exact ⟨o, ho, rfl⟩
  · cases hg

theorem loadVar_agg {P : Program} {M : Mem} {m : Pl} {h : AHeap} {w : World} (r : HRel M m h w) {a a' : Addr} (hp : VRel m h (.pointer (some a)) (.pointer (some a'))) {t : TypeId} {n : Nat} {us : List Value}
    (ha : aggT P t = some true) (hn : szOf P t = some n) (hl : aload M h a n = some us) : ∃ v, (loadVar t a').run P w = .ok v w ∧ VRel m h (.agg ⟨us⟩) v := by
  obtain ⟨vs, hrun, hr, _⟩ := load_sound (P := P) r hp hl
  refine ⟨.agg vs.toArray, by simp only [loadVar, Sem.run_bind, run_isAgg ha, Result.andThen_ok, if_true, run_sizeOf hn, hrun w.drawn, Sem.run_pure], ?_⟩
  exact .agg (by simpa using hr.1) fun i u v hu hv => hr.2 i u v (by simpa using hu) (by simpa using hv)

theorem loadVar_one {P : Program} {M : Mem} {m : Pl} {h : AHeap} {w : World} (r : HRel M m h w) {a a' : Addr} (hp : VRel m h (.pointer (some a)) (.pointer (some a'))) {t : TypeId} {u : Value}
    (ha : aggT P t = some false) (hl : acell M h a 0 = some u) : ∃ v, (loadVar t a').run P w = .ok v w ∧ VRel m h u v := by
  obtain ⟨v, hc, hr, _⟩ := acell_sound r hp hl
  refine ⟨v, ?_, hr⟩
  have hadd : a'.add 0 = a' := by simp [Addr.add]
  rw [hadd] at hc
  simp only [loadVar, Sem.run_bind, run_isAgg ha, Result.andThen_ok, Bool.false_eq_true, if_false, run_load, hc]

theorem loadAct_value {P : Program} {M : Mem} {m : Pl} {h h' : AHeap} {w : World} (r : HRel M m h w) {a a' : Addr} (hp : VRel m h (.pointer (some a)) (.pointer (some a'))) {t : TypeId} {b : Nat} {v : Value}
    (hl : (loadAct P M t a).run b h = some (v, h')) : h' = h ∧ ∃ u, (loadVar t a').run P w = .ok u w ∧ VRel m h v u := by
  obtain ⟨blk, off, spot⟩ := a
  cases spot with
  | some sz =>
    simp only [loadAct, AAct.run] at hl
    split at hl
    · rename_i rs os hg hg2
      obtain ⟨o, ho, rfl⟩ := gather_one hg
      cases hg2
      simp only at hl
      split at hl
      · rename_i v1 os1 ns1 hf
        split at hf
        · rename_i v2 hov
          cases hf
          simp only [scatter, place, Option.some.injEq, Prod.mk.injEq] at hl
          obtain ⟨rfl, rfl⟩ := hl
          refine ⟨rfl, ?_⟩
          unfold oval at hov
          split at hov
          · rename_i hs
            split at hov
            · rename_i ha
              split at hov
              · rename_i n hn
                split at hov
                · rename_i hle
                  cases hov
                  exact loadVar_agg r hp ha hn (by simp [aload, ho, hs, hle])
                · cases hov
              · cases hov
            · rename_i ha
              exact loadVar_one r hp ha (by simp [acell, ho, hs, hov])
            · cases hov
          · cases hov
        · cases hf
      · cases hl
    · cases hl
  | none =>
    simp only [loadAct, AAct.run, gather] at hl
    split at hl
    · rename_i v1 os1 ns1 hf
      split at hf
      · rename_i v2 hov
        cases hf
        simp only [scatter, place, Option.some.injEq, Prod.mk.injEq] at hl
        obtain ⟨rfl, rfl⟩ := hl
        refine ⟨rfl, ?_⟩
        unfold rval at hov
        split at hov
        · rename_i ha
          split at hov
          · rename_i n hn
            split at hov
            · rename_i l hl
              cases hov
              exact loadVar_agg r hp ha hn hl
            · cases hov
          · cases hov
        · rename_i ha
          exact loadVar_one r hp ha hov
        · cases hov
      · cases hf
    · cases hl

theorem loadAct_sound {P : Program} {M : Mem} {m : Pl} {h h' : AHeap} {w : World} (r : HRel M m h w) {o : Oper} {a : Go.Act} {t : TypeId} {x : Operand} (ho : o.op = .load t x) {ad : Addr}
    (hx : VRel m h (.pointer (some ad)) (a.eval x)) {b : Nat} {v : Value} (hl : (loadAct P M t ad).run b h = some (v, h')) : OpOk P M o a m h w v h' := by
  obtain ⟨a', ha⟩ := hx.ptr_inv
  rw [ha] at hx
  obtain ⟨rfl, u, hrun, hr⟩ := loadAct_value r hx hl
  refine .of_value (u := u) (w' := w) ?_ (.refl r) hr
  simp only [execOp, ho, ha, Instr.loadAt, Instr.sureAddr, Sem.run_bind, Sem.run_pure, Result.andThen_ok, hrun]

/-- Cells are written into an object. -/
def ostores (o : AObj) (sz off : Nat) (us : List Value) : Option AObj :=
  if o.cells.length = sz ∧ off + us.length ≤ sz ∧ okL o.flat us = true then some { o with cells := wr o.cells off us } else none

theorem ostores_heap (us : List Value) : ∀ (i : Nat) (h : AHeap) (o : AObj) (blk sz off : Nat), hget h blk = some o → o.cells.length = sz → off + i + us.length ≤ sz → okL o.flat us = true →
    astores h ⟨blk, off, some sz⟩ us i = some (h.set blk (some { o with cells := wr o.cells (off + i) us })) := by
  induction us with
  | nil =>
    intro i h o blk sz off ho hs hle hok
    simp only [astores, wr]
    have : h.set blk (some o) = h := by
      have hlt := hget_lt ho
      apply List.ext_getElem?
      intro k
      rw [List.getElem?_set]
      by_cases hk : blk = k
      · subst hk
        rw [if_pos rfl, if_pos hlt]
        rw [List.getElem?_eq_getElem hlt]
        have : hget h blk = h[blk] := by simp [hget, hlt]
        rw [← this, ho]
      · rw [if_neg hk]
    exact congrArg some this.symm
  | cons u us ih =>
    intro i h o blk sz off ho hs hle hok
    simp only [List.length_cons] at hle
    simp only [okL, List.all_cons, Bool.and_eq_true] at hok
    have hlt := hget_lt ho
    simp only [astores, astore1, ho]
    rw [if_pos ⟨hs, by omega, hok.1⟩]
    simp only
    rw [ih (i + 1) _ { o with cells := o.cells.set (off + i) u } blk sz off (hget_set_self hlt _) (by simpa using hs) (by omega) hok.2]
    simp only [List.set_set, wr, Nat.add_assoc]

def storeAct (P : Program) (t : TypeId) (a : Addr) (v : Value) : Option AAct :=
  match a.spot, szOf P t with
  | some sz, some n => if v.cells.toList.length = n then some { rd := [], wt := [a.block], f := fun _ _ os => match os with
    | [o] => match ostores o sz a.off v.cells.toList with
      | some o' => some (undef, [o'], [])
      | none => none
    | _ => none } else none
  | _, _ => none

theorem storeAct_sound {P : Program} {M : Mem} {m : Pl} {h h' : AHeap} {w : World} (r : HRel M m h w) {o : Oper} {a : Go.Act} {t : TypeId} {x y : Operand} (ho : o.op = .store t x y) {ad : Addr} {val : Value}
    (hx : VRel m h (.pointer (some ad)) (a.eval x)) (hy : VRel m h val (a.eval y)) {act : AAct} (hact : storeAct P t ad val = some act) {b : Nat} {v : Value} (hl : act.run b h = some (v, h')) : OpOk P M o a m h w v h' := by
  obtain ⟨blk, off, spot⟩ := ad
  unfold storeAct at hact
  split at hact
  · rename_i sz n hsp hn
    simp only at hsp
    subst hsp
    split at hact
    · rename_i hlen
      cases hact
      simp only [AAct.run] at hl
      split at hl
      · rename_i rs os hg2 hg
        obtain ⟨ob, hob, rfl⟩ := gather_one hg
        simp only at hl
        split at hl
        · rename_i v1 os1 ns1 hf
          split at hf
          · rename_i o' hos
            cases hf
            simp only [scatter, place, Option.some.injEq, Prod.mk.injEq] at hl
            obtain ⟨rfl, rfl⟩ := hl
            unfold ostores at hos
            split at hos
            · rename_i hc
              cases hos
              obtain ⟨a', ha⟩ := hx.ptr_inv
              rw [ha] at hx
              have hcells := hy.cells.list
              have hst := ostores_heap val.cells.toList 0 h ob blk sz off hob hc.1 (by simpa using hc.2.1) hc.2.2
              obtain ⟨w', hrun, htr⟩ := stores_sound (P := P) _ _ 0 r hx hcells hst
              refine .of_skip (w' := w') ?_ htr
              have h2 : (a.eval y).cells.size = n := by rw [← hy.cells.1]; simpa using hlen
              simp only [execOp, ho, ha, Instr.storeAt, Instr.sureAddr, storeVar, Sem.run_bind, Sem.run_pure, Result.andThen_ok, run_sizeOf hn, h2, ne_eq, not_true_eq_false, if_false, hrun]
            · cases hos
          · cases hf
        · cases hl
      · cases hl
    · cases hact
  · cases hact

/-- Does a type hold no pointer? -/
def flatT (P : Program) (t : TypeId) : Option Bool := (P.info? t).map fun i => !i.hasPointers

def newAct (o : AObj) (v : Nat → Value) : AAct := { rd := [], wt := [], f := fun b _ _ => some (v b, [], [o]) }

theorem newAct_run {o : AObj} {v : Nat → Value} {b : Nat} {h h' : AHeap} {u : Value} (hl : (newAct o v).run b h = some (u, h')) : u = v b ∧ h' = hput h b o := by
  simp only [newAct, AAct.run, gather, scatter, place, Option.some.injEq, Prod.mk.injEq] at hl
  exact ⟨hl.1.symm, hl.2.symm⟩

/-- A new row of cells. -/
theorem newRow_sound {P : Program} {M : Mem} {m : Pl} {h : AHeap} {w : World} (r : HRel M m h w) {b : Nat} (hb : Room h b 1) {us : List Value} {vs : Array Value} (hu : LRel m h us vs.toList) {g f : Bool} {e : Nat} (hok : okL f us = true) (t : TypeId) :
    (newRow t vs).run P w = .ok ⟨w.heap.size, 0, none⟩ (w.alloc (.cells vs t)) ∧ Tr M m h w (plNew m b w.heap.size vs.size) (hput h b ⟨us, g, e, f⟩) (w.alloc (.cells vs t)) := by
  refine ⟨by simp [newRow], ?_⟩
  have hlen := hu.1
  simp only [Array.length_toList] at hlen
  refine Tr.new r hb.1 (by have := hb.2 0 (by omega); simpa using this) _ vs t (0, 0) (by show (w.heap.push _)[w.heap.size]? = _; simp) (fun k hk => ?_) rfl rfl rfl (by simp; omega) (.inl rfl) (fun j v hv => ?_) (fun hf => okL_ground' hok hf) (fun j u v hu' hv => hu.2 j u v hu' (by simpa using hv))
  · show (w.heap.push _)[k]? = _
    rw [Array.getElem?_push, if_neg (Nat.ne_of_lt hk)]
  · exact hu.one (okL_one hok) v (Array.mem_toList_iff.2 (Array.mem_of_getElem? hv))

theorem newAct_cnt (o : AObj) (v : Nat → Value) (b : Nat) (h : AHeap) : (newAct o v).cnt b h = 1 := rfl

def ptrTo (n : Nat) (b : Nat) : Value := .pointer (some ⟨b, 0, some n⟩)

def allocAct (P : Program) (t : TypeId) : Option AAct :=
  match zeroOf P t, flatT P t with
  | some z, some f => if okL f z then some (newAct ⟨z, false, 1, f⟩ (ptrTo z.length)) else none
  | _, _ => none

theorem allocAct_sound {P : Program} {M : Mem} {m : Pl} {h h' : AHeap} {w : World} (r : HRel M m h w) {o : Oper} {a : Go.Act} {t : TypeId} (ho : o.op = .alloc t)
    {act : AAct} (hact : allocAct P t = some act) {b : Nat} (hb : Room h b 1) {v : Value} (hl : act.run b h = some (v, h')) : OpOk P M o a m h w v h' := by
  unfold allocAct at hact
  split at hact
  · rename_i z f hz hf
    split at hact
    · rename_i hok
      cases hact
      obtain ⟨rfl, rfl⟩ := newAct_run hl
      obtain ⟨zv, hzr, hzc, hzg⟩ := run_zero hz
      obtain ⟨hrun, htr⟩ := newRow_sound (P := P) r hb (us := z) (vs := zv.cells) (g := false) (e := 1) (by rw [hzc]; exact LRel.same hzg) hok t
      refine .of_value ?_ htr (new_ptr hb.1)
      simp only [execOp, ho, Instr.alloc, Sem.run_bind, hzr, Result.andThen_ok, newVar, hrun, Sem.run_pure]
    · cases hact
  · cases hact

def boxAct (P : Program) (t : TypeId) (v : Value) : Option AAct :=
  match flatT P t with
  | some f => if okL f v.cells.toList then some (newAct ⟨v.cells.toList, false, 1, f⟩ (ptrTo v.cells.toList.length)) else none
  | _ => none

theorem boxAct_sound {P : Program} {M : Mem} {m : Pl} {h h' : AHeap} {w : World} (r : HRel M m h w) {o : Oper} {a : Go.Act} {t : TypeId} {x : Operand} (ho : o.op = .box t x) {val : Value} (hx : VRel m h val (a.eval x))
    {act : AAct} (hact : boxAct P t val = some act) {b : Nat} (hb : Room h b 1) {v : Value} (hl : act.run b h = some (v, h')) : OpOk P M o a m h w v h' := by
  unfold boxAct at hact
  split at hact
  · rename_i f hf
    split at hact
    · rename_i hok
      cases hact
      obtain ⟨rfl, rfl⟩ := newAct_run hl
      obtain ⟨hrun, htr⟩ := newRow_sound (P := P) r hb (us := val.cells.toList) (vs := (a.eval x).cells) (g := false) (e := 1) hx.cells.list hok t
      refine .of_value ?_ htr (new_ptr hb.1)
      simp only [execOp, ho, Instr.box, Sem.run_bind, Result.andThen_ok, newVar, hrun, Sem.run_pure]
    · cases hact
  · cases hact

/-- The zero cells of n elements. -/
def zcells (z : List Value) : Nat → List Value
  | 0 => []
  | n + 1 => z ++ zcells z n

theorem zcells_one (v : Value) (n : Nat) : zcells [v] n = List.replicate n v := by
  induction n with
  | zero => rfl
  | succ n ih => simp [zcells, ih, List.replicate_succ]

theorem zcells_length (z : List Value) (n : Nat) : (zcells z n).length = n * z.length := by
  induction n with
  | zero => simp [zcells]
  | succ n ih => simp [zcells, ih, Nat.succ_mul, Nat.add_comm]

theorem zcells_get (z : List Value) (n j : Nat) (hj : j < n * z.length) : (zcells z n)[j]? = z[j % z.length]? := by
  induction n generalizing j with
  | zero => simp at hj
  | succ n ih =>
    have hz : 0 < z.length := by
      rcases Nat.eq_zero_or_pos z.length with h | h
      · rw [h] at hj; simp at hj
      · exact h
    simp only [zcells, List.getElem?_append]
    split
    · rename_i hlt; rw [Nat.mod_eq_of_lt hlt]
    · rename_i hge
      rw [ih (j - z.length) (by rw [Nat.succ_mul] at hj; omega)]
      have e := Nat.mod_eq_sub_mod (a := j) (b := z.length) (by omega)
      rw [e]

theorem zcells_array (zv : Value) (n k : Nat) (hk : zv.cells.size = k) :
    ((Array.range (n * k)).map (zv.cells[· % zv.cells.size]!)).toList = zcells zv.cells.toList n := by
  have hl : (zcells zv.cells.toList n).length = n * k := by rw [zcells_length]; simp [hk]
  apply List.ext_getElem?
  intro j
  by_cases hj : j < n * k
  · rw [zcells_get zv.cells.toList n j (by simpa [hk] using hj)]
    have hkp : 0 < zv.cells.size := by
      rw [hk]
      rcases Nat.eq_zero_or_pos k with h | h
      · rw [h] at hj; simp at hj
      · exact h
    have hm : j % zv.cells.size < zv.cells.size := Nat.mod_lt _ hkp
    simp [hj, Array.getElem!_eq_getD, hm]
  · rw [List.getElem?_eq_none (by simpa using hj), List.getElem?_eq_none (by rw [hl]; omega)]

theorem groundL_zcells {z : List Value} (h : groundL z = true) (n : Nat) : groundL (zcells z n) = true := by
  induction n with
  | zero => rfl
  | succ n ih => simp only [zcells, groundL_append, h, ih, Bool.and_self]

theorem okL_zcells {f : Bool} {z : List Value} (h : okL f z = true) (n : Nat) : okL f (zcells z n) = true := by
  induction n with
  | zero => rfl
  | succ n ih => simp only [zcells, okL, List.all_append, Bool.and_eq_true]; exact ⟨h, ih⟩

def slcTo (len cap n : Nat) (b : Nat) : Value := .slice (some ⟨b, 0, some n⟩) len cap

def buildSliceAct (P : Program) (t : TypeId) (len : Nat) (ps : List (Nat × Value)) : Option AAct :=
  match P.underlying t with
  | some (.slice e) => match szOf P e, zeroOf P e, flatT P e with
    | some n, some z, some f =>
      if len * n ≤ 16777216 ∧ z.length = n then match afill (fun i => some (i * n, n)) (zcells z len) ps with
        | some cs => if okL f cs then some (newAct ⟨cs, true, n, f⟩ (slcTo len len cs.length)) else none
        | none => none
      else none
    | _, _, _ => none
  | _ => none

theorem afill_length {pl : Nat → Option (Nat × Nat)} : ∀ (ps : List (Nat × Value)) {cs us : List Value}, afill pl cs ps = some us → us.length = cs.length := by
  intro ps
  induction ps with
  | nil => intro cs us h; cases h; rfl
  | cons p ps ih =>
    intro cs us h
    obtain ⟨i, v⟩ := p
    simp only [afill] at h
    split at h
    · cases h
    · split at h
      · rw [ih h, wr_length]
      · cases h

theorem buildSliceAct_sound {P : Program} {M : Mem} {m : Pl} {h h' : AHeap} {w : World} (r : HRel M m h w) {o : Oper} {a : Go.Act} {t : TypeId} {len : Nat} {parts : Array (Nat × Operand)} (ho : o.op = .buildSlice t len parts)
    {ρ : Operand → Option Value} (hρ : ∀ x u, ρ x = some u → VRel m h u (a.eval x)) {ps : List (Nat × Value)} (hps : aparts ρ parts.toList = some ps)
    {act : AAct} (hact : buildSliceAct P t len ps = some act) {b : Nat} (hb : Room h b 1) {v : Value} (hl : act.run b h = some (v, h')) : OpOk P M o a m h w v h' := by
  unfold buildSliceAct at hact
  split at hact
  · rename_i e hu
    split at hact
    · rename_i n z f hn hz hf
      split at hact
      · rename_i hc
        obtain ⟨hc1, hc2⟩ := hc
        split at hact
        · rename_i cs hcs
          split at hact
          · rename_i hok
            cases hact
            obtain ⟨rfl, rfl⟩ := newAct_run hl
            obtain ⟨zv, hzr, hzc, hzg⟩ := run_zero hz
            obtain ⟨h1, h2⟩ := aparts_sound hρ _ _ hps
            have hzs : zv.cells.size = n := by rw [← hc2, ← hzc]; simp
            have hz0 : LRel m h (zcells z len) ((Array.range (len * n)).map (zv.cells[· % zv.cells.size]!)).toList := by
              rw [zcells_array zv len n hzs, hzc]
              exact LRel.same (groundL_zcells hzg len)
            obtain ⟨vs, hvs, hvr⟩ := fill_sound (fun i => some (i * n, n)) ps (parts.toList.map fun p => (p.1, a.eval p.2)) hz0 h1 h2 hcs
            have hpe : (parts.map fun x => match x with | (i, x) => (i, a.eval x)).toList = parts.toList.map fun p => (p.1, a.eval p.2) := by simp
            obtain ⟨hrun, htr⟩ := newRow_sound (P := P) r hb (us := cs) (vs := vs) (g := true) (e := n) hvr hok e
            have hcl : cs.length = len * n := by rw [afill_length ps hcs, zcells_length, hc2]
            have hvl : vs.size = len * n := by have := hvr.1; simp at this; omega
            refine .of_value ?_ htr (new_slc hb.1 (Nat.le_refl _) (Nat.le_refl _) rfl (by simp only; omega))
            have hgt : ¬ len * n > 2 ^ 24 := by omega
            by_cases h0 : len * n = 0
            · have e1 : ∀ g : Nat → Value, (Array.range 0).map g = #[] := fun g => by simp [Array.range_zero']
              have e0 : ∀ g : Nat → Value, (Array.range (len * n)).map g = #[] := fun g => by rw [h0]; exact e1 g
              rw [e0] at hvs
              simp only [execOp, ho, Instr.buildSlice, Sem.run_bind, run_underlying hu, run_sizeOf hn, Result.andThen_ok, h0, if_true, Sem.run_pure, Sem.run_ite, hpe]
              simp only [e1]
              simp [hvs, hrun]
            · simp only [execOp, ho, Instr.buildSlice, Sem.run_bind, run_underlying hu, run_sizeOf hn, Result.andThen_ok, hgt, if_false, h0, Sem.run_pure, Sem.run_ite, hzr, hpe]
              simp [hvs, hrun]
          · cases hact
        · cases hact
      · cases hact
    · cases hact
  · cases hact

end Go.Ab

namespace Go.Ab

def bnd (y : Nat) : Value → Option Nat
  | .int _ n => if 0 ≤ n ∧ n ≤ (y : Int) then some n.toNat else none
  | _ => none

/-- The bounds of a slice expression: low, high, max. -/
def abounds (len cap : Nat) (lo hi mx : Option Value) : Option (Nat × Nat × Nat) :=
  match (match mx with | none => some cap | some v => bnd cap v) with
  | none => none
  | some m => match (match hi, mx with | none, none => if len ≤ m then some len else none | some v, _ => bnd m v | none, some _ => none) with
    | none => none
    | some h => match (match lo with | none => some 0 | some v => bnd h v) with
      | none => none
      | some l => some (l, h, m)

theorem bnd_run {P : Program} {y y' : Nat} {v : Value} {n : Nat} (h : bnd y v = some n) (hy : y ≤ y') (code : BoundsCode) (w : World) : (Instr.sliceBound v y' code).run P w = .ok n w ∧ n ≤ y := by
  unfold bnd at h
  split at h
  · rename_i k i
    split at h
    · rename_i hc
      cases h
      refine ⟨?_, by omega⟩
      have : (0 ≤ i ∧ i ≤ (y' : Int)) := ⟨hc.1, by omega⟩
      simp only [Instr.sliceBound, asIntOf, Sem.run_bind, Sem.run_pure, Result.andThen_ok, Sem.run_ite, this, and_self, if_true]
    · cases h
  · cases h

theorem abounds_run {P : Program} {len cap cap' : Nat} {lo hi mx : Option Value} {l h m : Nat} (hb : abounds len cap lo hi mx = some (l, h, m)) (hc : cap ≤ cap') (s : Bool) (w : World) :
    ∃ m', (Instr.sliceBounds s len cap' lo hi mx).run P w = .ok (l, h, m') w ∧ l ≤ h ∧ h ≤ m ∧ m ≤ cap ∧ ((m' = m ∧ mx ≠ none) ∨ (mx = none ∧ m' = cap' ∧ m = cap)) := by
  unfold abounds at hb
  split at hb
  · cases hb
  · rename_i m0 hm
    split at hb
    · cases hb
    · rename_i h0 hh
      split at hb
      · cases hb
      · rename_i l0 hl
        cases hb
        cases mx with
        | none =>
          simp only [Option.some.injEq] at hm
          subst hm
          have hrunh : h ≤ cap ∧ (match hi with
              | some v => Instr.sliceBound v cap' (if s then .sliceAcap else .sliceAlen)
              | none => pure len).run P w = .ok h w := by
            cases hi with
            | none =>
              simp only at hh
              split at hh
              · cases hh; exact ⟨by assumption, rfl⟩
              · cases hh
            | some v =>
              obtain ⟨h1, h2⟩ := bnd_run (P := P) hh hc (if s then .sliceAcap else .sliceAlen) w
              exact ⟨h2, h1⟩
          have hrunl : l ≤ h ∧ (match lo with
              | some v => Instr.sliceBound v h .sliceB
              | none => pure 0).run P w = .ok l w := by
            cases lo with
            | none => simp only [Option.some.injEq] at hl; subst hl; exact ⟨Nat.zero_le _, rfl⟩
            | some v =>
              obtain ⟨h1, h2⟩ := bnd_run (P := P) hl (Nat.le_refl _) .sliceB w
              exact ⟨h2, h1⟩
          refine ⟨cap', ?_, hrunl.1, hrunh.1, Nat.le_refl _, .inr ⟨rfl, rfl, rfl⟩⟩
          have a1 := hrunh.2
          have a2 := hrunl.2
          cases hi <;> cases lo <;> simp only [Instr.sliceBounds, Sem.run_bind, Sem.run_pure, Result.andThen_ok, Option.isSome_none, Bool.false_eq_true, if_false] at a1 a2 ⊢ <;> simp_all
        | some v =>
          obtain ⟨hm1, hm2⟩ := bnd_run (P := P) hm hc (if s then .slice3Acap else .slice3Alen) w
          cases hi with
          | none => simp at hh
          | some hv =>
            obtain ⟨hh1, hh2⟩ := bnd_run (P := P) hh (Nat.le_refl _) .slice3B w
            have hrunl : l ≤ h ∧ (match lo with
                | some v => Instr.sliceBound v h .slice3C
                | none => pure 0).run P w = .ok l w := by
              cases lo with
              | none => simp only [Option.some.injEq] at hl; subst hl; exact ⟨Nat.zero_le _, rfl⟩
              | some v =>
                obtain ⟨h1, h2⟩ := bnd_run (P := P) hl (Nat.le_refl _) .slice3C w
                exact ⟨h2, h1⟩
            refine ⟨m, ?_, hrunl.1, hh2, hm2, .inl ⟨rfl, by simp⟩⟩
            have a2 := hrunl.2
            cases lo <;> simp only [Instr.sliceBounds, Sem.run_bind, Sem.run_pure, Result.andThen_ok, Option.isSome_some, if_true] at a2 ⊢ <;> simp_all

/-- A slice of an array that lies in an object, or of read-only memory. -/
def slcArr (k : Nat) (a : Addr) (b : Nat × Nat × Nat) : AAct :=
  match a.spot with
  | some _ => { rd := [a.block], wt := [], f := fun _ os _ => match os with
    | [o] => if o.grow = false then some (.slice (some (aadd a (b.1 * k))) (b.2.1 - b.1) (b.2.2 - b.1), [], []) else none
    | _ => none }
  | none => { rd := [], wt := [], f := fun _ _ _ => some (.slice (some (if b.2.2 = b.1 then a else aadd a (b.1 * k))) (b.2.1 - b.1) (b.2.2 - b.1), [], []) }

def slcSlc (k : Nat) (a : Addr) (b : Nat × Nat × Nat) : AAct :=
  match a.spot with
  | some _ => { rd := [a.block], wt := [], f := fun _ os _ => match os with
    | [o] => if o.grow = true → o.esz = k then some (.slice (some (aadd a (b.1 * k))) (b.2.1 - b.1) (b.2.2 - b.1), [], []) else none
    | _ => none }
  | none => { rd := [], wt := [], f := fun _ _ _ => some (.slice (some (if b.2.2 = b.1 then a else aadd a (b.1 * k))) (b.2.1 - b.1) (b.2.2 - b.1), [], []) }

def sliceAct (P : Program) (t : TypeId) (v : Value) (lo hi mx : Option Value) : Option AAct :=
  match P.underlying t, v with
  | some (.array n e), .pointer (some a) => match szOf P e, abounds n n lo hi mx with
    | some k, some b => some (slcArr k a b)
    | _, _ => none
  | some (.pointer t'), .pointer (some a) => match P.underlying t' with
    | some (.array n e) => match szOf P e, abounds n n lo hi mx with
      | some k, some b => some (slcArr k a b)
      | _, _ => none
    | _ => none
  | some (.slice e), .slice (some a) len cap => match szOf P e, abounds len cap lo hi mx with
    | some k, some b => some (slcSlc k a b)
    | _, _ => none
  | some (.slice e), .slice none 0 0 => match szOf P e, abounds 0 0 lo hi mx with
    | some _, some _ => some { rd := [], wt := [], f := fun _ _ _ => some (.slice none 0 0, [], []) }
    | _, _ => none
  | _, _ => none

theorem add_eq_aadd {b off n : Nat} : Addr.add ⟨b, off, none⟩ n = aadd ⟨b, off, none⟩ n := add_lit b off n

theorem slcArr_sound {M : Mem} {m : Pl} {h h' : AHeap} {a a' : Addr} (hp : VRel m h (.pointer (some a)) (.pointer (some a'))) {k l hh mm : Nat} (h1 : l ≤ hh) (h2 : hh ≤ mm) {b : Nat} {v : Value}
    (hr : (slcArr k a (l, hh, mm)).run b h = some (v, h')) : h' = h ∧ VRel m h v (.slice (some (if mm = l then a' else a'.add (l * k))) (hh - l) (mm - l)) := by
  obtain ⟨blk, off, spot⟩ := a
  cases spot with
  | none =>
    cases hp with
    | same hg =>
      simp only [slcArr, AAct.run, gather, scatter, place, Option.some.injEq, Prod.mk.injEq] at hr
      obtain ⟨rfl, rfl⟩ := hr
      refine ⟨rfl, ?_⟩
      rw [add_eq_aadd]
      refine .same ?_
      simp only [ground]
      split <;> rfl
  | some sz =>
    simp only [slcArr, AAct.run] at hr
    split at hr
    · rename_i rs os hg hg2
      obtain ⟨o, ho, rfl⟩ := gather_one hg
      cases hg2
      simp only at hr
      split at hr
      · rename_i v1 o1 n1 hf
        split at hf
        · rename_i hgr
          cases hf
          simp only [scatter, place, Option.some.injEq, Prod.mk.injEq] at hr
          obtain ⟨rfl, rfl⟩ := hr
          refine ⟨rfl, ?_⟩
          cases hp with
          | same hg => simp [ground] at hg
          | ptr ho' hle hv =>
            rw [ho] at ho'
            cases ho'
            refine .slc ho hle ⟨by omega, Nat.le_refl _⟩ fun e => ⟨fun hne => ?_, fun _ => rfl, fun hf => by rw [hgr] at hf; cases hf⟩
            rw [if_neg (by omega), hv e, add_lit]
        · cases hf
      · cases hr
    · cases hr

theorem slcSlc_sound {M : Mem} {m : Pl} {h h' : AHeap} {a a' : Addr} {len cap cap' : Nat} (hp : VRel m h (.slice (some a) len cap) (.slice (some a') len cap')) {k l hh mm mm' : Nat} (h1 : l ≤ hh) (h2 : hh ≤ mm) (h3 : mm ≤ cap)
    (hmm : mm' = mm ∨ (mm' = cap' ∧ mm = cap)) {b : Nat} {v : Value}
    (hr : (slcSlc k a (l, hh, mm)).run b h = some (v, h')) : h' = h ∧ VRel m h v (.slice (some (if mm' = l then a' else a'.add (l * k))) (hh - l) (mm' - l)) := by
  obtain ⟨blk, off, spot⟩ := a
  cases spot with
  | none =>
    cases hp with
    | same hg =>
      have hmm' : mm' = mm := by omega
      subst hmm'
      simp only [slcSlc, AAct.run, gather, scatter, place, Option.some.injEq, Prod.mk.injEq] at hr
      obtain ⟨rfl, rfl⟩ := hr
      refine ⟨rfl, ?_⟩
      rw [add_eq_aadd]
      refine .same ?_
      simp only [ground]
      split <;> rfl
  | some sz =>
    simp only [slcSlc, AAct.run] at hr
    split at hr
    · rename_i rs os hg hg2
      obtain ⟨o, ho, rfl⟩ := gather_one hg
      cases hg2
      simp only at hr
      split at hr
      · rename_i v1 o1 n1 hf
        split at hf
        · rename_i hgr
          cases hf
          simp only [scatter, place, Option.some.injEq, Prod.mk.injEq] at hr
          obtain ⟨rfl, rfl⟩ := hr
          refine ⟨rfl, ?_⟩
          cases hp with
          | same hg => simp [ground] at hg
          | slc ho' hle hc hv =>
            obtain ⟨g1, g2⟩ := hc
            rw [ho] at ho'
            cases ho'
            refine .slc ho hle ⟨by omega, by omega⟩ fun e => ?_
            obtain ⟨g3, g4, g5⟩ := hv e
            refine ⟨fun hne => ?_, fun hf => ?_, fun hf => ?_⟩
            · rw [if_neg (by omega), g3 (by omega), add_lit]
            · have := g4 hf; omega
            · have g6 := g5 hf
              have hk := hgr hf
              subst hk
              have : l * o.esz + (mm' - l) * o.esz = mm' * o.esz := by rw [← Nat.add_mul]; congr 1; omega
              have h7 : mm' * o.esz ≤ cap' * o.esz := Nat.mul_le_mul_right _ (by omega)
              simp only [aadd]
              omega
        · cases hf
      · cases hr
    · cases hr

theorem sliceAct_sound {P : Program} {M : Mem} {m : Pl} {h h' : AHeap} {w : World} (r : HRel M m h w) {o : Oper} {a : Go.Act} {t : TypeId} {x : Operand} {xl xh xm : Option Operand} (ho : o.op = .slice t x xl xh xm)
    {val : Value} {lo hi mx : Option Value} (hx : VRel m h val (a.eval x)) (hlo : xl.map a.eval = lo) (hhi : xh.map a.eval = hi) (hmx : xm.map a.eval = mx)
    {act : AAct} (hact : sliceAct P t val lo hi mx = some act) {b : Nat} {v : Value} (hl : act.run b h = some (v, h')) : OpOk P M o a m h w v h' := by
  unfold sliceAct at hact
  split at hact
  · rename_i n e ad hu
    split at hact
    · rename_i k bs hk hb
      obtain ⟨l, hh, mm⟩ := bs
      cases hact
      obtain ⟨a', ha⟩ := hx.ptr_inv
      rw [ha] at hx
      obtain ⟨m', hrun, g1, g2, g3, g4⟩ := abounds_run (P := P) hb (Nat.le_refl _) false w
      have hm' : m' = mm := by omega
      subst hm'
      obtain ⟨rfl, hv⟩ := slcArr_sound (M := M) hx g1 g2 hl
      refine .of_value (w' := w) ?_ (.refl r) hv
      simp only [execOp, ho, ha, hlo, hhi, hmx, Instr.sliceAt, Sem.run_bind, run_underlying hu, Result.andThen_ok, Instr.sureAddr, Sem.run_pure, hrun, run_sizeOf hk]
    · cases hact
  · rename_i t' ad hu
    split at hact
    · rename_i n e hu'
      split at hact
      · rename_i k bs hk hb
        obtain ⟨l, hh, mm⟩ := bs
        cases hact
        obtain ⟨a', ha⟩ := hx.ptr_inv
        rw [ha] at hx
        obtain ⟨m', hrun, g1, g2, g3, g4⟩ := abounds_run (P := P) hb (Nat.le_refl _) false w
        have hm' : m' = mm := by omega
        subst hm'
        obtain ⟨rfl, hv⟩ := slcArr_sound (M := M) hx g1 g2 hl
        refine .of_value (w' := w) ?_ (.refl r) hv
        simp only [execOp, ho, ha, hlo, hhi, hmx, Instr.sliceAt, Instr.slice, Sem.run_bind, run_underlying hu, run_underlying hu', Result.andThen_ok, asAddr, Sem.run_pure, hrun, run_sizeOf hk]
      · cases hact
    · cases hact
  · rename_i e ad len cap hu
    split at hact
    · rename_i k bs hk hb
      obtain ⟨l, hh, mm⟩ := bs
      cases hact
      obtain ⟨a', cap', ha⟩ := hx.slc_inv
      rw [ha] at hx
      by_cases hval : cap ≤ cap'
      · obtain ⟨m', hrun, g1, g2, g3, g4⟩ := abounds_run (P := P) hb hval true w
        have hmm : m' = mm ∨ (m' = cap' ∧ mm = cap) := by omega
        obtain ⟨rfl, hv⟩ := slcSlc_sound (M := M) hx g1 g2 g3 hmm hl
        refine .of_value (w' := w) ?_ (.refl r) hv
        simp only [execOp, ho, ha, hlo, hhi, hmx, Instr.sliceAt, Instr.slice, Sem.run_bind, run_underlying hu, Result.andThen_ok, Sem.run_pure, hrun, run_sizeOf hk, Option.map_some]
        congr 4
        split <;> rfl
      · exfalso
        cases hx with
        | same hg => omega
        | slc ho' hle hc hv => omega
    · cases hact
  · rename_i e hu
    split at hact
    · rename_i k bs hk hb
      obtain ⟨l, hh, mm⟩ := bs
      cases hact
      simp only [AAct.run, gather, scatter, place, Option.some.injEq, Prod.mk.injEq] at hl
      obtain ⟨rfl, rfl⟩ := hl
      have ha := hx.eq rfl
      obtain ⟨m', hrun, g1, g2, g3, g4⟩ := abounds_run (P := P) hb (Nat.le_refl _) true w
      have h0 : l = 0 ∧ hh = 0 ∧ m' = 0 := by omega
      obtain ⟨rfl, rfl, rfl⟩ := h0
      refine .of_value (u := .slice none 0 0) (w' := w) ?_ (.refl r) (.same rfl)
      simp [execOp, ho, ha, hlo, hhi, hmx, Instr.sliceAt, Instr.slice, run_underlying hu, hrun, run_sizeOf hk]
    · cases hact
  · cases hact

end Go.Ab

namespace Go.Ab

def bytesT (P : Program) (t : TypeId) : Option Nat := (P.info? t).map (·.bytes)

def makeAct (P : Program) (t : TypeId) (l c : Value) : Option AAct :=
  match P.underlying t, l, c with
  | some (.slice e), .int _ n, .int _ k => match szOf P e, zeroOf P e, flatT P e, bytesT P e with
    | some sz, some z, some f, some by_ =>
      if 0 ≤ n ∧ n ≤ k ∧ k ≤ 4611686018427387904 ∧ (by_ : Int) * k ≤ 281474976710656 ∧ z.length = sz ∧ okL f z = true then
        some (newAct ⟨zcells z k.toNat, true, sz, f⟩ (slcTo n.toNat k.toNat (k.toNat * sz)))
      else none
    | _, _, _, _ => none
  | _, _, _ => none

theorem wrap64_id {n : Int} (h0 : 0 ≤ n) (h1 : n ≤ 4611686018427387904) : IntKind.i64.wrap n = n := by
  have hm : n % 18446744073709551616 = n := Int.emod_eq_of_lt h0 (by omega)
  simp only [IntKind.wrap, IntKind.bits, IntKind.signed]
  simp only [show (2 : Int) ^ 64 = 18446744073709551616 from rfl, show (2 : Int) ^ (64 - 1) = 9223372036854775808 from rfl, hm]
  have : ¬ n ≥ 9223372036854775808 := by omega
  simp [this]

theorem makeAct_sound {P : Program} {M : Mem} {m : Pl} {h h' : AHeap} {w : World} (r : HRel M m h w) {o : Oper} {a : Go.Act} {t : TypeId} {x y : Operand} (ho : o.op = .makeSlice t x y) {vl vc : Value}
    (hx : VRel m h vl (a.eval x)) (hy : VRel m h vc (a.eval y)) {act : AAct} (hact : makeAct P t vl vc = some act) {b : Nat} (hb : Room h b 1) {v : Value} (hl : act.run b h = some (v, h')) : OpOk P M o a m h w v h' := by
  unfold makeAct at hact
  split at hact
  · rename_i e k1 n k2 k hu
    split at hact
    · rename_i sz z f by_ hsz hz hf hby
      split at hact
      · rename_i hc
        obtain ⟨h0, h1, h2, h3, h4, h5⟩ := hc
        cases hact
        obtain ⟨rfl, rfl⟩ := newAct_run hl
        obtain ⟨zv, hzr, hzc, hzg⟩ := run_zero hz
        have hzs : zv.cells.size = sz := by rw [← h4, ← hzc]; simp
        have hx' := hx.int
        have hy' := hy.int
        obtain ⟨i, hi, hib⟩ : ∃ i, P.info? e = some i ∧ i.bytes = by_ := by
          unfold bytesT at hby
          cases hi : P.info? e with
          | none => simp [hi] at hby
          | some i => exact ⟨i, rfl, by simpa [hi] using hby⟩
        have hisz : i.size = sz := by simpa [szOf, hi] using hsz
        have hcells := zcells_array zv k.toNat sz hzs
        obtain ⟨hrun, htr⟩ := newRow_sound (P := P) r hb (us := zcells z k.toNat) (vs := (Array.range (k.toNat * sz)).map (zv.cells[· % zv.cells.size]!)) (g := true) (e := sz)
          (by rw [hcells, hzc]; exact LRel.same (groundL_zcells hzg _)) (okL_zcells h5 k.toNat) e
        have hlen : (zcells z k.toNat).length = k.toNat * sz := by rw [zcells_length, h4]
        have hvl : ((Array.range (k.toNat * sz)).map (zv.cells[· % zv.cells.size]!)).size = k.toNat * sz := by simp
        have hv := new_slc (m := m) (h := h) (b := w.heap.size) (n := ((Array.range (k.toNat * sz)).map (zv.cells[· % zv.cells.size]!)).size) (o := ⟨zcells z k.toNat, true, sz, f⟩) (len := n.toNat) (cap := k.toNat) (cap' := k.toNat) hb.1 (by omega) (Nat.le_refl _) rfl (by rw [hvl]; exact Nat.le_refl _)
        simp only [hlen] at hv
        refine .of_value ?_ htr hv
        have w1 := wrap64_id h0 (by omega : n ≤ 4611686018427387904)
        have w2 := wrap64_id (by omega : 0 ≤ k) h2
        have hlt1 : (decide (k < 0)) = false := by simp; omega
        have hlt2 : (decide (n < 0)) = false := by simp; omega
        have hlt3 : (decide (n > k)) = false := by simp; omega
        have hlt4 : (decide ((by_ : Int) * k > 2 ^ 48)) = false := by simp; omega
        simp only [execOp, ho, hx', hy', Instr.makeSlice, Sem.run_bind, run_underlying hu, Result.andThen_ok, asInt, asIntOf, Sem.run_pure, typeInfo, run_program, hi, hib, w1, w2, hlt1, hlt2, hlt3, hlt4, Bool.or_false, Bool.false_eq_true, if_false, run_askRoom, Sem.run_ite, sizeOf, hisz]
        by_cases hz0 : k.toNat * sz = 0
        · have e1 : ∀ g : Nat → Value, (Array.range (k.toNat * sz)).map g = #[] := fun g => by rw [hz0]; simp [Array.range_zero']
          rw [e1] at hrun ⊢
          simp [hz0, hrun, e1, Array.range_zero']
        · simp [hz0, hzr, hrun]
      · cases hact
    · cases hact
  · cases hact

/-- An object out of a list of numbered ones. -/
def olook : List Nat → List AObj → Nat → Option AObj
  | i :: r, o :: os, k => if i = k then some o else olook r os k
  | _, _, _ => none

theorem olook_gather {h : AHeap} : ∀ {fp : List Nat} {os : List AObj} {k : Nat} {o : AObj}, gather h fp = some os → olook fp os k = some o → hget h k = some o := by
  intro fp
  induction fp with
  | nil => intro os k o hg hl; cases os <;> simp [olook] at hl
  | cons i r ih =>
    intro os k o hg hl
    simp only [gather] at hg
    split at hg
    · rename_i o1 os1 h1 h2
      cases hg
      simp only [olook] at hl
      split at hl
      · rename_i he; cases hl; exact he ▸ h1
      · exact ih h2 hl
    · cases hg

/-- The cells that a copy or an append takes from its source, with whether they are plain data. -/
def srcFp : Value → List Nat
  | .slice (some ⟨j, _, some _⟩) _ _ => [j]
  | _ => []

def srcN : Value → Option Nat
  | .slice none 0 _ => some 0
  | .slice (some _) n _ => some n
  | .string s => some s.size
  | _ => none

def strCells (s : ByteArray) (n : Nat) : List Value := (s.data.toList.take n).map fun b => .int .u8 b.toNat

def srcCells (M : Mem) (k : Nat) (look : Nat → Option AObj) (n : Nat) : Value → Option (List Value × Bool)
  | .slice none _ _ => if n = 0 then some ([], true) else none
  | .slice (some ⟨j, off, some sz⟩) len _ => match look j with
    | some o => if o.cells.length = sz ∧ off + n * k ≤ sz ∧ n ≤ len then some ((o.cells.drop off).take (n * k), o.flat) else none
    | none => none
  | .slice (some ⟨b, off, none⟩) len _ => match aload.roload M b off (n * k) with
    | some l => if n ≤ len then some (l, true) else none
    | none => none
  | .string s => if k = 1 ∧ n ≤ s.size then some (strCells s n, true) else none
  | _ => none

theorem srcN_run {P : Program} {m : Pl} {h : AHeap} {u v : Value} (hr : VRel m h u v) {n : Nat} (hn : srcN u = some n) (w : World) : (Builtin.lenOf v).run P w = .ok n w := by
  unfold srcN at hn
  split at hn
  · cases hn; have := hr.eq rfl; subst this; rfl
  · cases hn
    obtain ⟨a', c', hv⟩ := hr.slc_inv
    subst hv; rfl
  · cases hn; have := hr.eq rfl; subst this; rfl
  · cases hn

theorem groundL_drop_take {l : List Value} (h : groundL l = true) (i n : Nat) : groundL ((l.drop i).take n) = true := by
  rw [groundL_iff] at *
  exact fun v hv => h v (List.mem_of_mem_drop (List.mem_of_mem_take hv))

/-- What the source's first n elements are. -/
theorem srcCells_sound {P : Program} {M : Mem} {m : Pl} {h : AHeap} {w : World} (r : HRel M m h w) {u v : Value} (hr : VRel m h u v) {k n : Nat} {look : Nat → Option AObj} (hlook : ∀ j o, look j = some o → hget h j = some o)
    {us : List Value} {f : Bool} (hs : srcCells M k look n u = some (us, f)) :
    ∃ vs : List Value, (∀ c : Nat, (Builtin.firstCells k n v).run P { w with drawn := c } = .ok vs.toArray { w with drawn := c }) ∧ LRel m h us vs ∧ us.length = n * k ∧ (∀ x ∈ vs, x.oneCell' = true) ∧ (f = true → groundL us = true) := by
  unfold srcCells at hs
  split at hs
  · split at hs
    · rename_i hn
      cases hs
      have := hr.eq rfl
      subst this hn
      exact ⟨[], fun _ => rfl, .nil m h, by simp, by simp, fun _ => rfl⟩
    · cases hs
  · rename_i j off sz len c
    split at hs
    · rename_i o ho
      split at hs
      · rename_i hc
        cases hs
        have ho' := hlook _ _ ho
        obtain ⟨a', c', hv⟩ := hr.slc_inv
        subst hv
        have hlen : ((o.cells.drop off).take (n * k)).length = n * k := by simp; omega
        have hfl : o.flat = true → groundL ((o.cells.drop off).take (n * k)) = true := fun hf => by
          obtain ⟨cs, t, fz, x⟩ := r.obj _ _ ho'
          exact groundL_drop_take (x.flat hf) _ _
        by_cases h0 : n = 0
        · subst h0
          refine ⟨[], fun c => by simp [Builtin.firstCells, loadCells, loadCellsFrom], ?_, hlen, by simp, hfl⟩
          simp only [Nat.zero_mul, List.take_zero]
          exact .nil m h
        · have hp := hr.slc_at (by omega)
          obtain ⟨vs, hrun, hrel, hl, ho1⟩ := load_sound (P := P) r hp (n := n * k) (us := (o.cells.drop off).take (n * k)) (by simp [aload, ho', hc.1, hc.2.1])
          exact ⟨vs, hrun, hrel, hlen, ho1, hfl⟩
      · cases hs
    · cases hs
  · rename_i bl off len c
    split at hs
    · rename_i l hl
      split at hs
      · cases hs
        obtain ⟨a', c', hv⟩ := hr.slc_inv
        subst hv
        obtain ⟨g1, g2⟩ := roload_get _ _ _ hl
        have hp : VRel m h (.pointer (some ⟨bl, off, none⟩)) (.pointer (some a')) := by
          cases hr with
          | same hg => exact .same rfl
        obtain ⟨vs, hrun, hrel, hl', ho1⟩ := load_sound (P := P) r hp (n := n * k) (us := us) hl
        refine ⟨vs, hrun, hrel, g1, ho1, fun _ => (groundL_iff _).2 fun v hv => ?_⟩
        obtain ⟨i, hi, rfl⟩ := List.getElem_of_mem hv
        exact (r.ro _ _ _ (g2 i _ (List.getElem?_eq_getElem hi))).2.1
      · cases hs
    · cases hs
  · rename_i s
    split at hs
    · rename_i hc
      cases hs
      obtain ⟨rfl, hn⟩ := hc
      have := hr.eq rfl
      subst this
      have hg : groundL (strCells s n) = true := (groundL_iff _).2 fun v hv => by
        simp only [strCells, List.mem_map] at hv
        obtain ⟨b, _, rfl⟩ := hv
        rfl
      refine ⟨strCells s n, fun c => ?_, LRel.same hg, ?_, fun x hx => ?_, fun _ => hg⟩
      · simp only [Builtin.firstCells, Sem.run_pure]
        congr 1
        apply Array.ext'
        simp [strCells]
      · have : s.size = s.data.toList.length := by simp
        simp [strCells]; omega
      · simp only [strCells, List.mem_map] at hx
        obtain ⟨b, _, rfl⟩ := hx
        rfl
    · cases hs
  · cases hs

/-- May these cells go into an object (plain data from a plain object, or looked at one by one)? -/
def okC (f : Bool) (us : List Value) (fs : Bool) : Bool := (fs || okL f us)

theorem okC_ground {f fs : Bool} {us : List Value} (h : okC f us fs = true) (hf : f = true) (hs : fs = true → groundL us = true) : groundL us = true := by
  cases hfs : fs with
  | true => exact hs hfs
  | false => subst hf; simp [okC, hfs] at h; exact okL_ground h

/-- Cells written into a block of the model's. -/
theorem storeBlock {P : Program} {g o : Nat} {t : TypeId} {fz : Nat × Nat} : ∀ (vs : List Value) (i : Nat) (cs : Array Value) (w : World), w.heap[g]? = some (.cells cs t fz) → o + i + vs.length ≤ cs.size →
    (∀ j, j < cs.size → ¬ (fz.1 ≤ j ∧ j < fz.2)) → (∀ v ∈ vs, v.oneCell' = true) →
    ∃ w', (storeCells ⟨g, o, none⟩ vs i).run P w = .ok () w' ∧ w'.heap[g]? = some (.cells (wr cs.toList (o + i) vs).toArray t fz) ∧ (∀ k, k ≠ g → w'.heap[k]? = w.heap[k]?) ∧
      w'.os = w.os ∧ w'.tape = w.tape ∧ w'.output = w.output ∧ w'.heap.size = w.heap.size := by
  intro vs
  induction vs with
  | nil => intro i cs w hg _ _ _; exact ⟨w, rfl, by simpa [wr] using hg, fun _ _ => rfl, rfl, rfl, rfl, rfl⟩
  | cons v vs ih =>
    intro i cs w hg hle hfz h1
    simp only [List.length_cons] at hle
    have hj : o + i < cs.size := by omega
    have hcell : w.cell? ⟨g, o + i, none⟩ = some cs[o + i] := by simp [World.cell?, hg, hj]
    have hfro : w.frozen? ⟨g, o + i, none⟩ = false := by
      have := hfz (o + i) hj
      obtain ⟨lo, hi'⟩ := fz
      simp only [World.frozen?, hg]
      simpa using this
    have hone : v.oneCell' = true := h1 v (by simp)
    have hheap : ∀ k, (w.setCell ⟨g, o + i, none⟩ v).heap[k]? = if k = g then some (.cells (cs.setIfInBounds (o + i) v) t fz) else w.heap[k]? := fun k => by
      simp only [World.setCell, Array.getElem?_modify]
      by_cases hk : k = g
      · subst hk; simp [hg]
      · simp [hk, Ne.symm hk]
    obtain ⟨w', hrun, g1, g2, g3, g4, g5, g6⟩ := ih (i + 1) (cs.setIfInBounds (o + i) v) (w.setCell ⟨g, o + i, none⟩ v) (by rw [hheap, if_pos rfl]) (by simp; omega) (by simpa using hfz) (fun x hx => h1 x (by simp [hx]))
    refine ⟨w', ?_, ?_, fun k hk => by rw [g2 k hk, hheap, if_neg hk], g3, g4, g5, by rw [g6]; simp⟩
    · simp only [storeCells, Sem.run_bind, add_lit]
      rw [run_store P w _ v _ hone, hcell]
      simp only [hfro, Bool.false_eq_true, if_false, Result.andThen_ok]
      exact hrun
    · rw [g1]
      simp [wr, Array.toList_setIfInBounds, Nat.add_assoc]

theorem wr_take : ∀ (vs l : List Value) (n : Nat), n + vs.length ≤ l.length → (wr l n vs).take (n + vs.length) = l.take n ++ vs := by
  intro vs
  induction vs with
  | nil => intro l n h; simp [wr]
  | cons v vs ih =>
    intro l n h
    simp only [List.length_cons] at h ⊢
    have := ih (l.set n v) (n + 1) (by simp; omega)
    simp only [wr]
    rw [show n + (vs.length + 1) = n + 1 + vs.length by omega, this]
    have : (l.set n v).take (n + 1) = l.take n ++ [v] := by
      apply List.ext_getElem?
      intro j
      simp only [List.getElem?_take, List.getElem?_set, List.getElem?_append, List.length_take]
      have hmn : min n l.length = n := by omega
      rw [hmn]
      by_cases hj : j < n
      · simp [hj, Nat.ne_of_gt hj, Nat.lt_succ_of_lt hj]
      · by_cases hj2 : j = n
        · subst hj2
          have : j < l.length := by omega
          simp [this]
        · have h1 : ¬ j < n + 1 := by omega
          rw [if_neg h1, if_neg hj, List.getElem?_eq_none]
          simp; omega
    rw [this]
    simp

end Go.Ab

namespace Go.Ab

theorem okL_of {m : Pl} {h : AHeap} {us vs : List Value} (hr : LRel m h us vs) (h1 : ∀ v ∈ vs, v.oneCell' = true) {f : Bool} (hg : f = true → groundL us = true) : okL f us = true := by
  rw [okL, List.all_eq_true]
  intro u hu
  obtain ⟨i, hi, rfl⟩ := List.getElem_of_mem hu
  obtain ⟨v, hv, hvr⟩ := hr.get (List.getElem?_eq_getElem hi)
  have ho := h1 v (List.mem_of_getElem? hv)
  rw [hvr.one] at ho
  simp only [okv, ho, Bool.true_and]
  cases f with
  | false => rfl
  | true => simp [groundL_get (hg rfl) (List.getElem?_eq_getElem hi)]

def copyAct (P : Program) (M : Mem) (t1 : TypeId) (d s : Value) : Option AAct :=
  match P.underlying t1 with
  | some (.slice e) => match szOf P e, srcN s with
    | some k, some ns => match d with
      | .slice none 0 _ => some { rd := [], wt := [], f := fun _ _ _ => some (.int .i64 0, [], []) }
      | .slice (some ⟨i, off, some sz⟩) dl _ =>
        some { rd := (srcFp s).filter (· ≠ i), wt := [i], f := fun _ rs os => match os with
          | [o] => match srcCells M k (fun j => if j = i then some o else olook ((srcFp s).filter (· ≠ i)) rs j) (Nat.min ns dl) s with
            | some (us, fs) => if okC o.flat us fs = true ∧ o.cells.length = sz ∧ off + Nat.min ns dl * k ≤ sz then
                some (.int .i64 (Nat.min ns dl : Nat), [{ o with cells := wr o.cells off us }], []) else none
            | none => none
          | _ => none }
      | _ => none
    | _, _ => none
  | _ => none

theorem look_ok {h : AHeap} {fp : List Nat} {rs : List AObj} {i : Nat} {o : AObj} (hg : gather h fp = some rs) (ho : hget h i = some o) :
    ∀ j p, (if j = i then some o else olook fp rs j) = some p → hget h j = some p := fun j p hp => by
  split at hp
  · rename_i he; cases hp; exact he ▸ ho
  · exact olook_gather hg hp

theorem copyAct_sound {P : Program} {M : Mem} {m : Pl} {h h' : AHeap} {w : World} (r : HRel M m h w) {o : Oper} {a : Go.Act} {t1 t2 : TypeId} {x y : Operand} (ho : o.op = .call ⟨.builtin .copy, #[x, y], #[t1, t2]⟩) {d s : Value}
    (hx : VRel m h d (a.eval x)) (hy : VRel m h s (a.eval y)) {act : AAct} (hact : copyAct P M t1 d s = some act) {b : Nat} {v : Value} (hl : act.run b h = some (v, h')) : OpOk P M o a m h w v h' := by
  unfold copyAct at hact
  split at hact
  · rename_i e hu
    split at hact
    · rename_i k ns hk hns
      have hlen := srcN_run (P := P) hy hns w
      split at hact
      · rename_i c
        cases hact
        simp only [AAct.run, gather, scatter, place, Option.some.injEq, Prod.mk.injEq] at hl
        obtain ⟨rfl, rfl⟩ := hl
        have hd := hx.eq rfl
        refine .of_value (u := .int .i64 0) (w' := w) ?_ (.refl r) (.same rfl)
        have hf : ∀ v : Value, (Builtin.lenOf v).run P w = .ok ns w → (Builtin.firstCells k 0 v).run P w = .ok #[] w := fun v hv => by
          cases v <;> simp [Builtin.lenOf, Builtin.firstCells] at hv ⊢
          rename_i ad _ _
          cases ad <;> simp [Builtin.firstCells, loadCells, loadCellsFrom]
        have hf' := hf _ hlen
        have hmin : Nat.min ns 0 = 0 := Nat.min_zero ns
        simp [execOp, ho, resolve, invoke, builtin, hd, Builtin.copy_, run_underlying hu, hlen, run_sizeOf hk, hmin, hf', goInt]
      · rename_i i off sz dl dc
        cases hact
        simp only [AAct.run] at hl
        split at hl
        · rename_i rs os hg2 hg
          obtain ⟨ob, hob, rfl⟩ := gather_one hg
          simp only at hl
          split at hl
          · rename_i v1 os1 ns1 hf
            split at hf
            · rename_i us fs hsrc
              split at hf
              · rename_i hc
                obtain ⟨hc1, hc2, hc3⟩ := hc
                cases hf
                simp only [scatter, place, Option.some.injEq, Prod.mk.injEq] at hl
                obtain ⟨rfl, rfl⟩ := hl
                obtain ⟨vs, hrun, hrel, hul, hone, hgr⟩ := srcCells_sound (P := P) r hy (look_ok hg2 hob) hsrc
                have hokL : okL ob.flat us = true := okL_of hrel hone fun hf => okC_ground hc1 hf hgr
                obtain ⟨a', dc', hd⟩ := hx.slc_inv
                have hcopy : ∀ w', (storeCells a' vs).run P w = .ok () w' → (execOp a.eval o).run P w = .ok (.value (.int .i64 (Nat.min ns dl : Nat))) w' := fun w' hw' => by
                  simp [execOp, ho, resolve, invoke, builtin, hd, Builtin.copy_, run_underlying hu, hlen, run_sizeOf hk, hrun w.drawn, hw', goInt]
                by_cases h0 : Nat.min ns dl * k = 0
                · have hus : us = [] := List.eq_nil_of_length_eq_zero (by omega)
                  subst hus
                  have hvs : vs = [] := List.eq_nil_of_length_eq_zero (by have := hrel.1; simpa using this.symm)
                  subst hvs
                  have hset : h.set i (some { ob with cells := wr ob.cells off [] }) = h := by
                    have := ostores_heap [] 0 h ob i sz off hob hc2 (by simp; omega) rfl
                    simp only [astores, Nat.add_zero, Option.some.injEq] at this
                    exact this.symm
                  rw [hset]
                  exact .of_value (hcopy w rfl) (.refl r) (.same rfl)
                · have hdl : 0 < dl := by
                    rcases Nat.eq_zero_or_pos dl with h1 | h1
                    · subst h1; simp at h0
                    · exact h1
                  rw [hd] at hx
                  have hp := hx.slc_at hdl
                  have hst := ostores_heap us 0 h ob i sz off hob hc2 (by omega) hokL
                  obtain ⟨w', hrun', htr⟩ := stores_sound (P := P) _ _ 0 r hp hrel hst
                  exact .of_value (hcopy w' hrun') htr (.same rfl)
              · cases hf
            · cases hf
          · cases hl
        · cases hl
      · cases hact
    · cases hact
  · cases hact

/-- May that many elements be asked for? -/
def room (need by_ : Nat) : Bool := decide ((2 * need + 192) * by_ ≤ 281474976710656 ∧ need ≤ 4611686018427387904)

theorem nextcap_le {need cap : Nat} (h : cap < need) : Builtin.nextslicecap need cap ≤ 2 * need + 192 := by
  have grow : ∀ (r c : Nat), c ≤ 2 * need + 192 → Builtin.growBy need r c ≤ 2 * need + 192 := by
    intro r
    induction r with
    | zero => intro c hc; exact hc
    | succ r ih =>
      intro c hc
      simp only [Builtin.growBy]
      split
      · exact hc
      · exact ih _ (by omega)
  unfold Builtin.nextslicecap
  split
  · omega
  · split
    · omega
    · exact grow _ _ (by omega)

def srcT : TypeDesc → Bool
  | .slice _ | .string => true
  | _ => false

theorem run_append_fits {P : Program} {t1 t2 ty e : TypeId} {d2 : TypeDesc} {k n sLen sCap : Nat} {a : Addr} {x : Value} {vs : List Value} {w w' : World} (hu : P.underlying t1 = some (.slice e)) (hu2 : P.underlying t2 = some d2) (hd : srcT d2 = true)
    (hk : szOf P e = some k) (hn : (Builtin.lenOf x).run P w = .ok n w) (hc : (Builtin.firstCells k n x).run P w = .ok vs.toArray w) (hfit : sLen + n ≤ sCap) (hst : (storeCells (a.add (sLen * k)) vs).run P w = .ok () w') :
    (Builtin.append_ #[t1, t2] ty #[.slice (some a) sLen sCap, x]).run P w = .ok (.slice (some a) (sLen + n) sCap) w' := by
  cases d2 <;> simp only [srcT, Bool.false_eq_true] at hd
  all_goals simp [Builtin.append_, run_underlying hu, run_underlying hu2, run_sizeOf hk, hn, hc, hfit, hst]

theorem run_append_grows {P : Program} {t1 t2 ty e : TypeId} {d2 : TypeDesc} {k n by_ sLen sCap : Nat} {s : Option Addr} {x : Value} {olds vs z : List Value} {w : World} (hu : P.underlying t1 = some (.slice e)) (hu2 : P.underlying t2 = some d2) (hd : srcT d2 = true)
    (hk : szOf P e = some k) (hby : bytesT P e = some by_) (hz : zeroOf P e = some z) (hzk : z.length = k) (hz1 : ∀ v ∈ z, v.oneCell' = true) (hn : (Builtin.lenOf x).run P w = .ok n w)
    (hold : ∀ c, (Builtin.firstCells k sLen (.slice s sLen sCap)).run P { w with drawn := c } = .ok olds.toArray { w with drawn := c })
    (hc : ∀ c, (Builtin.firstCells k n x).run P { w with drawn := c } = .ok vs.toArray { w with drawn := c }) (hfit : ¬ sLen + n ≤ sCap) (hroom : room (sLen + n) by_ = true) (hb0 : 0 < by_) :
    ∃ cap' rest, sLen + n ≤ cap' ∧ rest.length = (cap' - (sLen + n)) * k ∧ (∀ v ∈ rest, v.oneCell' = true) ∧
      (Builtin.append_ #[t1, t2] ty #[.slice s sLen sCap, x]).run P w = .ok (.slice (some ⟨w.heap.size, 0, none⟩) (sLen + n) cap') (({ w with drawn := w.drawn + 1 } : World).alloc (.cells (olds ++ vs ++ rest).toArray e)) := by
  simp only [room, decide_eq_true_eq] at hroom
  obtain ⟨hr1, hr2⟩ := hroom
  obtain ⟨i, hi, hib⟩ : ∃ i, P.info? e = some i ∧ i.bytes = by_ := by
    unfold bytesT at hby
    cases hi : P.info? e with
    | none => simp [hi] at hby
    | some i => exact ⟨i, rfl, by simpa [hi] using hby⟩
  obtain ⟨zv, hzr, hzc, hzg⟩ := run_zero hz
  have hzs : zv.cells.size = k := by rw [← hzk, ← hzc]; simp
  have hnc := nextcap_le (need := sLen + n) (cap := sCap) (by omega)
  have hlim : ¬ Builtin.nextslicecap (sLen + n) sCap * by_ > 2 ^ 48 := by
    have : Builtin.nextslicecap (sLen + n) sCap * by_ ≤ (2 * (sLen + n) + 192) * by_ := Nat.mul_le_mul_right _ hnc
    omega
  let q : Question := .appendCap (sLen + n) sCap e
  let cap' := q.cut (w.tape w.drawn q)
  have hcap : sLen + n ≤ cap' := Nat.le_add_right _ _
  refine ⟨cap', zcells z (cap' - (sLen + n)), hcap, by rw [zcells_length, hzk], fun v hv => ?_, ?_⟩
  · clear hold hc
    generalize cap' - (sLen + n) = c at hv
    induction c with
    | zero => simp [zcells] at hv
    | succ c ih =>
      simp only [zcells, List.mem_append] at hv
      rcases hv with h | h
      · exact hz1 v h
      · exact ih h
  · have hrest : Builtin.zeroCells zv.cells (cap' - (sLen + n)) = (zcells z (cap' - (sLen + n))).toArray := by
      apply Array.ext'
      have := zcells_array zv (cap' - (sLen + n)) k hzs
      simp only [Builtin.zeroCells, hzs] at this ⊢
      rw [this, hzc]
    have hq : (Question.appendCap (sLen + n) sCap e).forced = false := rfl
    have hcut : Question.cut (.appendCap (sLen + n) sCap e) (w.tape w.drawn (.appendCap (sLen + n) sCap e)) = cap' := rfl
    have ho1 := hold (w.drawn + 1)
    have hc1 := hc (w.drawn + 1)
    have hnf : ¬ (by_ = 0) := by omega
    have hlim' : ¬ 281474976710656 < Builtin.nextslicecap (sLen + n) sCap * by_ := by omega
    have hfit' : ¬ sLen + n ≤ sCap := hfit
    have harr : olds.toArray ++ vs.toArray ++ (zcells z (cap' - (sLen + n))).toArray = (olds ++ vs ++ zcells z (cap' - (sLen + n))).toArray := by simp
    cases d2 <;> simp only [srcT, Bool.false_eq_true] at hd
    all_goals
      simp only [Builtin.append_, List.getElem?_toArray, List.getElem?_cons_zero, List.getElem?_cons_succ, Sem.run_bind, run_underlying hu, run_underlying hu2, Result.andThen_ok, run_sizeOf hk, Sem.run_pure, Bool.false_eq_true, if_false, hn, Sem.run_ite, hfit', typeInfo, run_program, hi, hib, false_or,
        hnf, and_false, hlim, run_choose, hq, hcut, run_askRoom, ho1, Bool.not_false, if_true, hc1, hzr, hrest, newRow, run_newObj, harr]
      rfl


def appendAct (P : Program) (M : Mem) (t1 t2 : TypeId) (s x : Value) : Option AAct :=
  match P.underlying t1, P.underlying t2 with
  | some (.slice e), some d2 => match szOf P e, bytesT P e, flatT P e, zeroOf P e, srcN x with
    | some k, some by_, some fl, some z, some n =>
      if srcT d2 = true ∧ 0 < k ∧ 0 < by_ ∧ z.length = k ∧ okL fl z = true then
        match s with
        | .slice none 0 0 =>
          if n = 0 then some { rd := [], wt := [], f := fun _ _ _ => some (.slice none 0 0, [], []) }
          else if room n by_ = true then
            some { rd := srcFp x, wt := [], f := fun b rs _ => match srcCells M k (olook (srcFp x) rs) n x with
              | some (us, fs) => if okC fl us fs = true then some (slcTo n n (n * k) b, [], [⟨us, true, k, fl⟩]) else none
              | none => none }
          else none
        | .slice (some ⟨i, off, some sz⟩) len cap =>
          if len + n ≤ cap then
            some { rd := (srcFp x).filter (· ≠ i), wt := [i], f := fun _ rs os => match os with
              | [o] => match srcCells M k (fun j => if j = i then some o else olook ((srcFp x).filter (· ≠ i)) rs j) n x with
                | some (us, fs) => if okC o.flat us fs = true ∧ o.cells.length = sz ∧ off + (len + n) * k ≤ sz then
                    some (.slice (some ⟨i, off, some sz⟩) (len + n) cap, [{ o with cells := wr o.cells (off + len * k) us }], []) else none
                | none => none
              | _ => none }
          else if room (len + n) by_ = true then
            some { rd := (srcFp x).filter (· ≠ i), wt := [i], f := fun b rs os => match os with
              | [o] => match srcCells M k (fun j => if j = i then some o else olook ((srcFp x).filter (· ≠ i)) rs j) n x with
                | some (us, fs) =>
                  if okC o.flat us fs = true ∧ o.cells.length = sz ∧ off + len * k ≤ sz then
                    if o.grow = true then
                      if off = 0 ∧ o.esz = k ∧ sz < (len + n) * k then
                        some (.slice (some ⟨i, 0, some ((len + n) * k)⟩) (len + n) (len + n), [{ o with cells := o.cells.take (len * k) ++ us }], [])
                      else none
                    else some (slcTo (len + n) (len + n) ((len + n) * k) b, [o], [⟨(o.cells.drop off).take (len * k) ++ us, true, k, o.flat⟩])
                  else none
                | none => none
              | _ => none }
          else none
        | _ => none
      else none
    | _, _, _, _, _ => none
  | _, _ => none

theorem hset_same {h : AHeap} {i : Nat} {o : AObj} (ho : hget h i = some o) : h.set i (some o) = h := by
  have := ostores_heap [] 0 h o i o.cells.length 0 ho rfl (by simp) rfl
  simp only [astores, wr, Option.some.injEq] at this
  exact this.symm

theorem execOp_append {P : Program} {o : Oper} {a : Go.Act} {t1 t2 : TypeId} {x y : Operand} (ho : o.op = .call ⟨.builtin .append, #[x, y], #[t1, t2]⟩) {s z v : Value} {w w' : World} (hx : a.eval x = s) (hy : a.eval y = z)
    (h : (Builtin.append_ #[t1, t2] o.type #[s, z]).run P w = .ok v w') : (execOp a.eval o).run P w = .ok (.value v) w' := by
  simp [execOp, ho, resolve, invoke, builtin, hx, hy, h]

theorem wr_get : ∀ (vs l : List Value) (n j : Nat), (wr l n vs)[j]? = if n ≤ j ∧ j < n + vs.length ∧ j < l.length then vs[j - n]? else l[j]? := by
  intro vs
  induction vs with
  | nil => intro l n j; rw [if_neg (by simp; omega)]; rfl
  | cons v vs ih =>
    intro l n j
    simp only [wr]
    rw [ih]
    simp only [List.length_set, List.length_cons]
    by_cases h1 : n + 1 ≤ j ∧ j < n + 1 + vs.length ∧ j < l.length
    · rw [if_pos h1, if_pos (by omega), show j - n = (j - (n + 1)) + 1 by omega]
      rfl
    · rw [if_neg h1, List.getElem?_set]
      by_cases h2 : n = j
      · subst h2
        by_cases h3 : n < l.length
        · rw [if_pos rfl, if_pos h3, if_pos (by omega)]; simp
        · rw [if_pos rfl, if_neg h3, if_neg (by omega), List.getElem?_eq_none (by omega)]
      · rw [if_neg h2, if_neg (by omega)]

theorem HRel.cellsOf {M : Mem} {m : Pl} {h : AHeap} {w : World} (r : HRel M m h w) {i : Nat} {o : AObj} (ho : hget h i = some o) : o.flat = true → groundL o.cells = true := by
  obtain ⟨cs, t, fz, x⟩ := r.obj i o ho
  exact x.flat

set_option maxHeartbeats 1000000 in
theorem appendAct_sound {P : Program} {M : Mem} {m : Pl} {h h' : AHeap} {w : World} (r : HRel M m h w) {o : Oper} {a : Go.Act} {t1 t2 : TypeId} {x y : Operand} (ho : o.op = .call ⟨.builtin .append, #[x, y], #[t1, t2]⟩) {s z : Value}
    (hx : VRel m h s (a.eval x)) (hy : VRel m h z (a.eval y)) {act : AAct} (hact : appendAct P M t1 t2 s z = some act) {b : Nat} (hbc : Room h b (act.cnt b h)) {v : Value} (hl : act.run b h = some (v, h')) : OpOk P M o a m h w v h' := by
  unfold appendAct at hact
  split at hact
  · rename_i e d2 hu hu2
    split at hact
    · rename_i k by_ fl zs n hk hby hfl hz hn
      split at hact
      · rename_i hc
        obtain ⟨hc1, hc2, hc3, hc4, hc5⟩ := hc
        have hlen := fun c => srcN_run (P := P) hy hn { w with drawn := c }
        have hlen0 := srcN_run (P := P) hy hn w
        split at hact
        · -- nil
          have hs := hx.eq rfl
          split at hact
          · rename_i hn0
            cases hact
            subst hn0
            simp only [AAct.run, gather, scatter, place, Option.some.injEq, Prod.mk.injEq] at hl
            obtain ⟨rfl, rfl⟩ := hl
            refine .of_value (u := .slice none 0 0) (w' := w) (execOp_append ho hs rfl ?_) (.refl r) (.same rfl)
            have hf0 : ∀ q : Value, (Builtin.lenOf q).run P w = .ok 0 w → (Builtin.firstCells k 0 q).run P w = .ok #[] w := fun q hv => by
              cases q <;> simp [Builtin.lenOf, Builtin.firstCells] at hv ⊢
              rename_i ad _ _
              cases ad <;> simp [Builtin.firstCells, loadCells, loadCellsFrom]
            have hf := hf0 _ hlen0
            cases d2 <;> simp only [srcT, Bool.false_eq_true] at hc1
            all_goals simp [Builtin.append_, run_underlying hu, run_underlying hu2, run_sizeOf hk, hlen0, hf]
          · rename_i hn0
            split at hact
            · rename_i hroom
              cases hact
              simp only [AAct.run, gather] at hl
              split at hl
              · rename_i rs os hg hg2
                cases hg2
                have hb := hbc
                simp only [AAct.cnt, hg, gather] at hb
                split at hl
                · rename_i v1 os1 ns1 hf
                  rw [hf] at hb
                  split at hf
                  · rename_i us fs hsrc
                    split at hf
                    · rename_i hok
                      cases hf
                      simp only [List.length_singleton] at hb
                      simp only [scatter, place, Option.some.injEq, Prod.mk.injEq] at hl
                      obtain ⟨rfl, rfl⟩ := hl
                      obtain ⟨vs, hrun, hrel, hul, hone, hgr⟩ := srcCells_sound (P := P) r hy (fun j p hp => olook_gather hg hp) hsrc
                      have hz1 := okL_one hc5
                      obtain ⟨cap', rest, g1, g2, g3, g4⟩ := run_append_grows (P := P) (ty := o.type) (s := none) (sLen := 0) (sCap := 0) (x := a.eval y) (olds := []) (vs := vs) (w := w) hu hu2 hc1 hk hby hz hc4 hz1 hlen0 (fun c => rfl) hrun (by omega) (by simpa using hroom) hc3
                      simp only [Nat.zero_add, List.nil_append] at g1 g2 g4
                      have hvl : vs.length = n * k := by have := hrel.1; omega
                      have hmul : (cap' - n) * k = cap' * k - n * k := Nat.sub_mul _ _ _
                      have hle : n * k ≤ cap' * k := Nat.mul_le_mul_right _ g1
                      have hcs : (vs ++ rest).toArray.size = cap' * k := by simp; omega
                      have htr := (Tr.drawn r (w.drawn + 1)).trans (Tr.new (w := { w with drawn := w.drawn + 1 }) (w' := ({ w with drawn := w.drawn + 1 } : World).alloc (.cells (vs ++ rest).toArray e)) (r.drawn _) hb.1 (by have := hb.2 0 (by omega); simpa using this) ⟨us, true, k, fl⟩ (vs ++ rest).toArray e (0, 0)
                        (by show ((w.heap.push _)[w.heap.size]? = _); simp) (fun k' hk' => by show (w.heap.push _)[k']? = _; rw [Array.getElem?_push, if_neg (Nat.ne_of_lt hk')]) rfl rfl rfl (by rw [hcs]; show us.length ≤ _; omega) (.inl rfl)
                        (fun j v hv => by
                          have hv' := Array.mem_of_getElem? hv
                          simp only [List.mem_toArray, List.mem_append] at hv'
                          rcases hv' with h1 | h1
                          · exact hone v h1
                          · exact g3 v h1)
                        (fun hf => okC_ground hok hf hgr)
                        (fun j u v hu' hv => by
                          have hj : j < us.length := (List.getElem?_eq_some_iff.1 hu').1
                          refine hrel.2 j u v hu' ?_
                          have hj2 : j < vs.length := by have := hrel.1; omega
                          rw [List.getElem?_toArray, List.getElem?_append_left hj2] at hv
                          exact hv))
                      refine .of_value (execOp_append ho hs rfl g4) htr ?_
                      have := new_slc (m := m) (h := h) (i := b) (b := w.heap.size) (n := (vs ++ rest).toArray.size) (o := ⟨us, true, k, fl⟩) (len := n) (cap := n) (cap' := cap') hb.1 (Nat.le_refl _) g1 rfl (by rw [hcs]; exact Nat.le_refl _)
                      rw [show ({ cells := us, grow := true, esz := k, flat := fl } : AObj).cells.length = n * k from hul] at this
                      exact this
                    · cases hf
                  · cases hf
                · cases hl
              · cases hl
            · cases hact
        · -- a slice of an object
          rename_i i off sz len cap
          obtain ⟨a', cap', hs⟩ := hx.slc_inv
          rw [hs] at hx
          have hlen1 := hlen0
          split at hact
          · rename_i hfit
            cases hact
            simp only [AAct.run] at hl
            split at hl
            · rename_i rs os hg2 hg
              obtain ⟨ob, hob, rfl⟩ := gather_one hg
              simp only at hl
              split at hl
              · rename_i v1 os1 ns1 hf
                split at hf
                · rename_i us fs hsrc
                  split at hf
                  · rename_i hcc
                    obtain ⟨hcc1, hcc2, hcc3⟩ := hcc
                    cases hf
                    simp only [scatter, place, Option.some.injEq, Prod.mk.injEq] at hl
                    obtain ⟨rfl, rfl⟩ := hl
                    obtain ⟨vs, hrun, hrel, hul, hone, hgr⟩ := srcCells_sound (P := P) r hy (look_ok hg2 hob) hsrc
                    have hokL : okL ob.flat us = true := okL_of hrel hone fun hf => okC_ground hcc1 hf hgr
                    have hcap : cap ≤ cap' := by
                      cases hx with
                      | same hg => exact Nat.le_refl _
                      | slc _ _ hc _ => exact hc.2
                    have hmul : (len + n) * k = len * k + n * k := Nat.add_mul _ _ _
                    have hst := ostores_heap us 0 h ob i sz (off + len * k) hob hcc2 (by omega) hokL
                    rw [Nat.add_zero] at hst
                    have hvx : VRel m h (.slice (some ⟨i, off, some sz⟩) (len + n) cap) (.slice (some a') (len + n) cap') := by
                      cases hx with
                      | same hg => simp [ground] at hg
                      | slc ho' hle hc hv => exact .slc ho' hle ⟨hfit, hc.2⟩ hv
                    by_cases hn0 : n = 0
                    · subst hn0
                      have hus : us = [] := List.eq_nil_of_length_eq_zero (by omega)
                      subst hus
                      have hvs : vs = [] := List.eq_nil_of_length_eq_zero (by have := hrel.1; simpa using this.symm)
                      subst hvs
                      simp only [wr]
                      rw [hset_same hob]
                      exact .of_value (execOp_append ho hs rfl (run_append_fits (P := P) hu hu2 hc1 hk hlen0 (hrun w.drawn) (by omega) rfl)) (.refl r) hvx
                    · have hp : VRel m h (.pointer (some ⟨i, off + len * k, some sz⟩)) (.pointer (some (a'.add (len * k)))) := by
                        have hp0 := hvx.slc_at (by omega)
                        exact hp0.ptr_aadd (len * k)
                      obtain ⟨w', hrun', htr⟩ := stores_sound (P := P) _ _ 0 r hp hrel hst
                      exact .of_value (execOp_append ho hs rfl (run_append_fits (P := P) hu hu2 hc1 hk hlen0 (hrun w.drawn) (by omega) hrun')) htr (hvx.mono htr.ext)
                  · cases hf
                · cases hf
              · cases hl
            · cases hl
          · rename_i hfit
            split at hact
            · rename_i hroom
              cases hact
              simp only [AAct.run] at hl
              split at hl
              · rename_i rs os hg2 hg
                have hb := hbc
                simp only [AAct.cnt, hg, hg2] at hb
                obtain ⟨ob, hob, rfl⟩ := gather_one hg
                simp only at hl hb
                split at hl
                · rename_i v1 os1 ns1 hf
                  rw [hf] at hb
                  split at hf
                  · rename_i us fs hsrc
                    split at hf
                    · rename_i hcc
                      obtain ⟨hcc1, hcc2, hcc3⟩ := hcc
                      obtain ⟨vs, hrun, hrel, hul, hone, hgr⟩ := srcCells_sound (P := P) r hy (look_ok hg2 hob) hsrc
                      have hval : (cap' ≠ 0 → a' = ⟨(m i).1, off, none⟩) ∧ (ob.grow = false → cap' = cap) ∧ (ob.grow = true → off + cap' * ob.esz ≤ (m i).2) ∧ len ≤ cap ∧ cap ≤ cap' := by
                        cases hx with
                        | same hg => simp [ground] at hg
                        | slc ho' hle hc hv =>
                          rw [hob] at ho'
                          cases ho'
                          obtain ⟨q1, q2, q3⟩ := hv hcc2.symm
                          exact ⟨q1, q2, q3, hc.1, hc.2⟩
                      obtain ⟨q1, q2, q3, q4, q5⟩ := hval
                      have hsrcOld : srcCells M k (fun j => if j = i then some ob else none) len (.slice (some ⟨i, off, some sz⟩) len cap) = some ((ob.cells.drop off).take (len * k), ob.flat) := by
                        simp [srcCells, hcc2, hcc3]
                      obtain ⟨olds, hrunO, hrelO, hulO, honeO, hgrO⟩ := srcCells_sound (P := P) r hx (fun j p hp => by
                        split at hp
                        · rename_i he; cases hp; exact he ▸ hob
                        · cases hp) hsrcOld
                      have hmul : (len + n) * k = len * k + n * k := Nat.add_mul _ _ _
                      have hgnew : ob.flat = true → groundL ((ob.cells.drop off).take (len * k) ++ us) = true := fun hf => by
                        rw [groundL_append, hgrO hf, okC_ground hcc1 hf hgr]; rfl
                      have hrelN : LRel m h ((ob.cells.drop off).take (len * k) ++ us) (olds ++ vs) := hrelO.append hrel
                      have honeN : ∀ v ∈ olds ++ vs, v.oneCell' = true := fun v hv => by
                        rcases List.mem_append.1 hv with h1 | h1
                        · exact honeO v h1
                        · exact hone v h1
                      have hlenN : ((ob.cells.drop off).take (len * k) ++ us).length = (len + n) * k := by rw [List.length_append]; omega
                      have hlenV : (olds ++ vs).length = (len + n) * k := by have := hrelN.1; omega
                      have hz1 := okL_one hc5
                      -- the way on which a new array is made
                      have grows : ¬ len + n ≤ cap' → ∃ cap2 rest, len + n ≤ cap2 ∧ (olds ++ vs ++ rest).toArray.size = cap2 * k ∧ (∀ v ∈ olds ++ vs ++ rest, v.oneCell' = true) ∧
                          (execOp a.eval o).run P w = .ok (.value (.slice (some ⟨w.heap.size, 0, none⟩) (len + n) cap2)) (({ w with drawn := w.drawn + 1 } : World).alloc (.cells (olds ++ vs ++ rest).toArray e)) := fun hno => by
                        obtain ⟨cap2, rest, g1, g2, g3, g4⟩ := run_append_grows (P := P) (ty := o.type) (s := some a') (sLen := len) (sCap := cap') (x := a.eval y) (olds := olds) (vs := vs) (w := w) hu hu2 hc1 hk hby hz hc4 hz1 hlen0 (fun c => hrunO c) hrun hno hroom hc3
                        refine ⟨cap2, rest, g1, ?_, fun v hv => ?_, execOp_append ho hs rfl g4⟩
                        · have h1 : (cap2 - (len + n)) * k = cap2 * k - (len + n) * k := Nat.sub_mul _ _ _
                          have h2 : (len + n) * k ≤ cap2 * k := Nat.mul_le_mul_right _ g1
                          simp only [List.size_toArray, List.length_append] at hlenV ⊢
                          omega
                        · rcases List.mem_append.1 hv with h1 | h1
                          · exact honeN v h1
                          · exact g3 v h1
                      have relN : ∀ (rest : List Value) (j : Nat) u v, ((ob.cells.drop off).take (len * k) ++ us)[j]? = some u → (olds ++ vs ++ rest).toArray[j]? = some v → VRel m h u v := fun rest j u v hu' hv => by
                        have hj : j < ((ob.cells.drop off).take (len * k) ++ us).length := (List.getElem?_eq_some_iff.1 hu').1
                        refine hrelN.2 j u v hu' ?_
                        rw [List.getElem?_toArray, List.getElem?_append_left (by omega)] at hv
                        exact hv
                      split at hf
                      · rename_i hgrow
                        split at hf
                        · rename_i hcd
                          obtain ⟨rfl, hesz, hlt⟩ := hcd
                          cases hf
                          simp only [scatter, place, Option.some.injEq, Prod.mk.injEq] at hl
                          obtain ⟨rfl, rfl⟩ := hl
                          rw [List.drop_zero] at *
                          have hself : hget (h.set i (some { ob with cells := ob.cells.take (len * k) ++ us })) i = some { ob with cells := ob.cells.take (len * k) ++ us } := hget_set_self (hget_lt hob) _
                          by_cases hin : len + n ≤ cap'
                          · have ha' := q1 (by omega)
                            subst ha'
                            obtain ⟨cs, t, fz, xx⟩ := r.obj i ob hob
                            have hcapk : (len + n) * k ≤ cap' * k := Nat.mul_le_mul_right _ hin
                            have hq3 := q3 hgrow
                            rw [hesz] at hq3
                            have hsz := xx.size
                            obtain ⟨w', hrun', b1, b2, b3, b4, b5, b6⟩ := storeBlock (P := P) (g := (m i).1) (o := len * k) vs 0 cs w xx.blk (by have := hrel.1; omega) xx.free.free hone
                            rw [Nat.add_zero] at b1
                            have hwl : (wr cs.toList (len * k) vs).length = cs.size := by rw [wr_length]; simp
                            have htr := Tr.upd (m' := m) (w' := w') (o' := { ob with cells := ob.cells.take (len * k) ++ us }) r hob (fun _ _ => rfl) (.inl rfl) rfl rfl rfl (by simp only [hlenN]; omega) (fun hpl => by simp only [hlenN] at hpl; omega) (by omega)
                              (fun k' _ hk' => b2 k' hk') b3 b4 b5 (fun hext => ⟨(wr cs.toList (len * k) vs).toArray, t, fz, ⟨b1, by simp [hwl, hsz], by simp only [List.size_toArray, hwl, hlenN]; omega, by rw [List.size_toArray, hwl]; exact xx.free, fun j v hv => by
                                rw [List.getElem?_toArray, wr_get] at hv
                                split at hv
                                · exact hone v (List.mem_of_getElem? hv)
                                · exact xx.one j v (by simpa using hv), hgnew, fun j u v hu' hv => by
                                rw [List.getElem?_toArray, wr_get] at hv
                                rw [List.getElem?_append] at hu'
                                have htl : (ob.cells.take (len * k)).length = len * k := by simp; omega
                                rw [htl] at hu'
                                split at hu'
                                · rename_i hjl
                                  rw [if_neg (by omega)] at hv
                                  rw [List.getElem?_take, if_pos hjl] at hu'
                                  exact (xx.rel j u v hu' (by simpa using hv)).mono hext
                                · rename_i hjl
                                  have hj : j - len * k < us.length := (List.getElem?_eq_some_iff.1 hu').1
                                  have hvl := hrel.1
                                  rw [if_pos (by simp; omega)] at hv
                                  exact (hrel.2 _ u v hu' hv).mono hext⟩⟩)
                            refine .of_value (execOp_append ho hs rfl (run_append_fits (P := P) (w' := w') hu hu2 hc1 hk hlen0 (hrun w.drawn) hin (by rw [add_lit, Nat.zero_add]; exact hrun'))) htr ?_
                            refine .slc hself (by simp only [hlenN]; exact Nat.le_refl _) ⟨Nat.le_refl _, hin⟩ fun _ => ⟨fun _ => rfl, fun hf => ?_, fun _ => ?_⟩
                            · simp only at hf; rw [hgrow] at hf; cases hf
                            · simp only; rw [hesz]; exact hq3
                          · obtain ⟨cap2, rest, g1, g2, g3, g4⟩ := grows hin
                            have hcap2 : (len + n) * k ≤ cap2 * k := Nat.mul_le_mul_right _ g1
                            have htr := (Tr.drawn r (w.drawn + 1)).trans (Tr.upd (w := { w with drawn := w.drawn + 1 }) (m' := fun j => if j = i then (w.heap.size, cap2 * k) else m j) (w' := ({ w with drawn := w.drawn + 1 } : World).alloc (.cells (olds ++ vs ++ rest).toArray e)) (o' := { ob with cells := ob.cells.take (len * k) ++ us }) (r.drawn _) hob
                              (fun k' hk' => by simp [hk']) (.inr (by simp)) rfl rfl rfl (by simp only [hlenN]; omega) (fun hpl => by simp only [hlenN] at hpl; omega) (by show w.heap.size ≤ (w.heap.push _).size; simp)
                              (fun k' hk' _ => by show (w.heap.push _)[k']? = _; rw [Array.getElem?_push, if_neg (Nat.ne_of_lt hk')]) rfl rfl rfl (fun hext => ⟨(olds ++ vs ++ rest).toArray, e, (0, 0), ⟨by show (w.heap.push _)[_]? = _; simp, by simp only [if_true]; exact g2, by simp only [hlenN, g2]; exact hcap2, .inl rfl, fun j v hv => g3 v (by have := Array.mem_of_getElem? hv; simpa using this), hgnew, fun j u v hu' hv => (relN rest j u v hu' hv).mono hext⟩⟩))
                            refine .of_value g4 htr ?_
                            refine .slc hself (by simp only [hlenN]; exact Nat.le_refl _) ⟨Nat.le_refl _, g1⟩ fun _ => ⟨fun _ => by simp, fun hf => ?_, fun _ => ?_⟩
                            · simp only at hf; rw [hgrow] at hf; cases hf
                            · simp [hesz]
                        · cases hf
                      · rename_i hgrow
                        have hgrow' : ob.grow = false := by simpa using hgrow
                        cases hf
                        simp only [List.length_singleton] at hb
                        simp only [scatter, place, Option.some.injEq, Prod.mk.injEq] at hl
                        obtain ⟨rfl, rfl⟩ := hl
                        rw [hset_same hob]
                        obtain ⟨cap2, rest, g1, g2, g3, g4⟩ := grows (by rw [q2 hgrow']; omega)
                        have hcap2 : (len + n) * k ≤ cap2 * k := Nat.mul_le_mul_right _ g1
                        have htr := (Tr.drawn r (w.drawn + 1)).trans (Tr.new (w := { w with drawn := w.drawn + 1 }) (w' := ({ w with drawn := w.drawn + 1 } : World).alloc (.cells (olds ++ vs ++ rest).toArray e)) (r.drawn _) hb.1 (by have := hb.2 0 (by omega); simpa using this) ⟨(ob.cells.drop off).take (len * k) ++ us, true, k, ob.flat⟩ (olds ++ vs ++ rest).toArray e (0, 0)
                          (by show ((w.heap.push _)[w.heap.size]? = _); simp) (fun k' hk' => by show (w.heap.push _)[k']? = _; rw [Array.getElem?_push, if_neg (Nat.ne_of_lt hk')]) rfl rfl rfl (by simp only [hlenN, g2]; exact hcap2) (.inl rfl)
                          (fun j v hv => g3 v (by have := Array.mem_of_getElem? hv; simpa using this)) hgnew (relN rest))
                        refine .of_value g4 htr ?_
                        have := new_slc (m := m) (h := h) (i := b) (b := w.heap.size) (n := (olds ++ vs ++ rest).toArray.size) (o := ⟨(ob.cells.drop off).take (len * k) ++ us, true, k, ob.flat⟩) (len := len + n) (cap := len + n) (cap' := cap2) hb.1 (Nat.le_refl _) g1 rfl (by rw [g2]; exact Nat.le_refl _)
                        simp only [hlenN] at this
                        exact this
                    · cases hf
                  · cases hf
                · cases hl
              · cases hl
            · cases hact
        · cases hact
      · cases hact
    · cases hact
  · cases hact

end Go.Ab

