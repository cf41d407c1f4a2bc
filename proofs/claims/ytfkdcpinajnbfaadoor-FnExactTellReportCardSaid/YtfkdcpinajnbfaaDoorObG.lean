/- toObs, whatever it sends: the copy's bytes lie in known cells.
   Conditions: none. -/
import Derived.Test.YtfkdcpinajnbfaaDoorObs
import Derived.Test.YtfkdcpinajnbfaaDoorAbD
open Go.Ab Go.Num
set_option linter.unusedVariables false
set_option linter.unusedSimpArgs false
namespace Go.Proofs.YtfkdcpinajnbfaaDoor
set_option maxRecDepth 100000

/-- Observations in the program's memory: one with the slice of what it sends. -/
structure Out where
  zz : Bool
  b : Nat
  off : Nat
  n : Nat
  c : Nat
/-- The slice: none or one of memory; a slice of none is empty. -/
def Out.sl (s : Out) : Value := bif s.zz then .slice none 0 0 else .slice (some ⟨s.b, s.off, none⟩) s.n s.c
def Out.len (s : Out) : Nat := bif s.zz then 0 else s.n
/-- Its bytes lie in memory. -/
def Out.ok (M : Mem) (s : Out) : Prop := s.zz = false → roAll M s.b s.off s.n = true
def Out.byte (M : Mem) (s : Out) (i : Nat) : Int := roN M s.b s.off i

/-- A copy's slice and its bytes. -/
structure Cp where
  b : Nat
  c : Nat
def Cp.sl (n : Nat) (p : Cp) : Value := .slice (some ⟨p.b, 0, none⟩) n p.c
def cpG (n : Nat) (x : Nat → Int) (p : Cp) : Gho := fun b y => 0 < n ∧ b = p.b ∧ y = .cells (cellsI .u8 n x)

theorem shutL_same {sz b : Nat} : ∀ {us vs : List Value}, groundL us = true → ShutL sz b us vs → vs = us := by
  intro us
  induction us with
  | nil => intro vs _ h; cases vs with
    | nil => rfl
    | cons v vs => exact False.elim h
  | cons u us ih => intro vs hg h; cases vs with
    | nil => exact False.elim h
    | cons v vs =>
      simp only [groundL, Bool.and_eq_true] at hg
      rcases h.1 with ⟨_, rfl⟩ | ⟨n, c, c', rfl, _⟩
      · rw [ih hg.2 h.2]
      · simp [ground] at hg
theorem shutL_split {sz b : Nat} : ∀ {us us' vs : List Value}, ShutL sz b (us ++ us') vs → ∃ v1 v2, vs = v1 ++ v2 ∧ ShutL sz b us v1 ∧ ShutL sz b us' v2 := by
  intro us
  induction us with
  | nil => intro us' vs h; exact ⟨[], vs, rfl, trivial, h⟩
  | cons u us ih => intro us' vs h; cases vs with
    | nil => exact False.elim h
    | cons v vs =>
      obtain ⟨v1, v2, rfl, h1, h2⟩ := ih h.2
      exact ⟨v :: v1, v2, rfl, ⟨h.1, h1⟩, h2⟩
theorem ground_cellsI {k : IntKind} {n : Nat} {x : Nat → Int} : groundL (cellsI k n x) = true := by
  rw [groundL_iff]
  intro v hv
  simp only [cellsI, List.mem_map] at hv
  obtain ⟨i, _, rfl⟩ := hv
  rfl
theorem obC_split (o : Ob) (s : Value) : obC o s = ([.int .i64 o.vd, .int .i64 o.dh, .bool o.ld] ++ srcCells o.v6 o.addr o.port) ++ ([s] ++ ([.int .i64 o.cl] ++ cellsI .u8 32 o.chain ++ cellsI .u8 32 o.hash)) := by
  simp [obC, List.append_assoc]
theorem obC_ground (o : Ob) : groundL ([.int .i64 o.vd, .int .i64 o.dh, .bool o.ld] ++ srcCells o.v6 o.addr o.port) = true ∧ groundL ([.int .i64 o.cl] ++ cellsI .u8 32 o.chain ++ cellsI .u8 32 o.hash) = true := by
  refine ⟨?_, ?_⟩
  · rw [groundL_append, srcCells, groundL_append, groundL_append, ground_cellsI]; rfl
  · rw [groundL_append, groundL_append, ground_cellsI, ground_cellsI]; rfl
theorem obC_shut {sz b : Nat} {o : Ob} {n c : Nat} {vs : List Value} (h : ShutL sz b (obC o (.slice (some ⟨0, 0, some sz⟩) n c)) vs) : ∃ c', c ≤ c' ∧ vs = obC o (.slice (some ⟨b, 0, none⟩) n c') := by
  rw [obC_split] at h
  obtain ⟨v1, v2, rfl, h1, h2⟩ := shutL_split h
  obtain ⟨v3, v4, rfl, h3, h4⟩ := shutL_split h2
  have e1 := shutL_same (obC_ground o).1 h1
  have e4 := shutL_same (obC_ground o).2 h4
  subst e1 e4
  cases v3 with
  | nil => exact False.elim h3
  | cons v v5 => cases v5 with
    | cons v6 v7 => exact False.elim h3.2
    | nil =>
      rcases h3.1 with ⟨hg, _⟩ | ⟨n1, c1, c', hu, _, hcc, rfl⟩
      · simp [ground] at hg
      · cases hu
        exact ⟨c', hcc, by rw [obC_split]⟩
theorem shut1_ground {sz : Nat} {u : Value} (h : ground u = true) : shut1 sz u := by
  unfold shut1
  split
  · simp [ground] at h
  · exact h
theorem obC_shut1 {o : Ob} {n : Nat} (hn : 0 < n) : ∀ u ∈ obC o (.slice (some ⟨0, 0, some n⟩) n n), shut1 n u := by
  intro u hu
  rw [obC_split] at hu
  rcases List.mem_append.1 hu with h | h
  · have := (groundL_iff _).1 (obC_ground o).1 u h
    exact shut1_ground this
  · rcases List.mem_append.1 h with h | h
    · rw [List.mem_singleton.1 h]; exact ⟨rfl, rfl, rfl, hn⟩
    · have := (groundL_iff _).1 (obC_ground o).2 u h
      exact shut1_ground this

theorem toObG {M : Mem} {o : Ob} {s : Out} (hs : s.ok M) : ACallsG Tryd.prog M 25 [.agg ⟨obC o s.sl⟩] [] fun v os' ns g => os' = [] ∧ ns = [] ∧ ∃ p : Cp, v = .agg ⟨obC o (p.sl s.len)⟩ ∧ s.len ≤ p.c ∧ g = cpG s.len (s.byte M) p := by
  obtain ⟨zz, b, off, n, c⟩ := s
  by_cases h0 : zz = true ∨ n = 0
  · have e : (⟨zz, b, off, n, c⟩ : Out).sl = eA zz b off c ∧ (⟨zz, b, off, n, c⟩ : Out).len = 0 := by
      rcases h0 with rfl | rfl
      · exact ⟨rfl, rfl⟩
      · cases zz <;> exact ⟨rfl, rfl⟩
    rw [e.1, e.2]
    have hz := toObE (zz := zz) (M := M) (b := b) (off := off) (c := c) (o := o)
    intro m w args' r hargs
    refine (hz m w args' r hargs).mono ?_
    rintro e w' ⟨v, os', ns, g, v', m', ⟨rfl, rfl, B, rfl⟩, h1, h2, h3, h4, h5⟩
    exact ⟨_, [], [], cpG 0 (Out.byte M ⟨zz, b, off, n, c⟩) ⟨B, 0⟩, v', m', ⟨rfl, rfl, ⟨B, 0⟩, rfl, Nat.le_refl _, rfl⟩, h1, h2, h3, h4, fun b x hx => by have := hx.1; omega⟩
  · have hzz : zz = false := by cases zz with | false => rfl | true => exact absurd (.inl rfl) h0
    subst hzz
    have hn : 0 < n := by omega
    have hro : roAll M b off n = true := hs rfl
    have hc : ACalls Tryd.prog M 25 [.agg ⟨obC o (.slice (some ⟨b, off, none⟩) n c)⟩] [] (.agg ⟨obC o (.slice (some ⟨0, 0, some n⟩) n n)⟩) [] [⟨cellsI .u8 n (roN M b off), true, 1, true⟩] :=
      acalls_of_evFC (consC (I30s M).c (consC (toS_S M) (consC (same32 M).c nilC))) mix Tryd.func25 (ob25s M o b off n c) (held_one hro)
    have hG := (hc.toG.mono (R' := fun v os' ns g => ∃ l, l.length = n ∧ v = .agg ⟨obC o (.slice (some ⟨0, 0, some n⟩) n n)⟩ ∧ ns = [⟨l, true, 1, true⟩] ∧ l = cellsI .u8 n (roN M b off) ∧ g = fun _ _ => False) (fun v o1 n1 g ⟨h1, h2, h3, h4⟩ => ⟨_, cellsI_length .., h1, h3, rfl, h4⟩)).shutA (R := fun l g => l = cellsI .u8 n (roN M b off) ∧ g = fun _ _ => False) (obC_shut1 hn)
    refine hG.mono ?_
    rintro v o1 n1 g ⟨rfl, rfl, l, B, vs, g0, hl, ⟨rfl, rfl⟩, rfl, hsh, _, rfl⟩
    obtain ⟨c', hcc, rfl⟩ := obC_shut hsh
    refine ⟨rfl, rfl, ⟨B, c'⟩, rfl, hcc, ?_⟩
    funext b x
    simp only [cpG, false_or, eq_iff_iff]
    exact ⟨fun ⟨h1, h2⟩ => ⟨hn, h1, h2⟩, fun ⟨_, h1, h2⟩ => ⟨h1, h2⟩⟩
end Go.Proofs.YtfkdcpinajnbfaaDoor
