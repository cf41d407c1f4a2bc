/- The authenticator's multiplying, folded; one piece of data; the sum.
   Conditions: the words are in bounds. -/
import Derived.Test.YtgnbmjhljlbkhaaGPoly
set_option linter.unusedVariables false
namespace Go.Num
open Go.Ab

def n1 (m : M4) : Int := num3 m.t0 m.t1 (bits .and .u64 m.t2 3) + andNot3 m.t2 + 18446744073709551616 * m.t3
def low2 (m : M4) : Int := bits .or .u64 ((andNot3 m.t2).fdiv (2 ^ 2)) (IntKind.u64.wrap (m.t3 * 2 ^ 62))
def mulRaw (r0 r1 : Int) (m : M4) : List Value := polyC r0 r1 (num3 (n1 m % 18446744073709551616) (n1 m / 18446744073709551616 % 18446744073709551616) (n1 m / 340282366920938463463374607431768211456) + low2 m + 18446744073709551616 * m.t3.fdiv (2 ^ 2))
def mulRawPins (m : M4) : Pins := [(plusOk m.t0 m.t1 (bits .and .u64 m.t2 3) (andNot3 m.t2) m.t3, true),
  (plusOk (n1 m % 18446744073709551616) (n1 m / 18446744073709551616 % 18446744073709551616) (n1 m / 340282366920938463463374607431768211456) (low2 m) (m.t3.fdiv (2 ^ 2)), true)]

theorem num3_split {N : Int} : num3 (N % 18446744073709551616) (N / 18446744073709551616 % 18446744073709551616) (N / 340282366920938463463374607431768211456) = N := by
  unfold num3; omega

theorem mulRaw_ok {r0 r1 : Int} {m : M4} {X : Int} (h0 : m.t0 = X % 18446744073709551616) (h1 : m.t1 = X / 18446744073709551616 % 18446744073709551616) (h2 : m.t2 = X / 340282366920938463463374607431768211456 % 18446744073709551616)
    (h3 : m.t3 = X / 6277101735386680763835789423207666416102355444464034512896) (hX : 0 ≤ X) (hX2 : X < 57896044618658097711785492504343953926634992332820282019728792003956564819968) :
    mulRaw r0 r1 m = polyC r0 r1 (foldP X) ∧ Held (mulRawPins m) := by
  have b2 : 0 ≤ m.t2 ∧ m.t2 < 18446744073709551616 := by omega
  have b3 : 0 ≤ m.t3 ∧ m.t3 < 9223372036854775808 := by omega
  have e1 := and3 b2.1 b2.2
  have e2 := andNot3_eq b2.1 b2.2
  have hn1 : n1 m = X % 1361129467683753853853498429727072845824 + 4 * (X / 1361129467683753853853498429727072845824) := by
    unfold n1 num3
    rw [e1, e2]
    omega
  have hlow : low2 m = m.t2 / 4 + m.t3 % 4 * 4611686018427387904 := by
    unfold low2
    have e : IntKind.u64.wrap (m.t3 * 2 ^ 62) = (m.t3 % 4) * 2 ^ 62 := by rw [wrap_u64]; omega
    rw [e2, Int.fdiv_eq_ediv_of_nonneg _ (by decide), or_comm64, e, or_add64 (by omega) (by omega) (by omega) (by omega) (by omega)]
    omega
  have hhi : m.t3.fdiv (2 ^ 2) = m.t3 / 4 := Int.fdiv_eq_ediv_of_nonneg _ (by decide)
  have hsum : low2 m + 18446744073709551616 * m.t3.fdiv (2 ^ 2) = X / 1361129467683753853853498429727072845824 := by
    rw [hlow, hhi]
    omega
  refine ⟨?_, ?_⟩
  · unfold mulRaw
    rw [num3_split]
    congr 1
    unfold foldP
    omega
  · have hr := fun (n : Int) (p : 0 ≤ n) (q : n ≤ 18446744073709551615) => hasB_iff.2 (has64 p q)
    refine held_cons ?_ (held_one ?_)
    · simp only [plusOk, Bool.and_eq_true, decide_eq_true_eq]
      rw [e1, e2]
      refine ⟨hr _ (by omega) (by omega), hr _ (by omega) (by omega), hr _ (by omega) (by omega), hr _ (by omega) (by omega), hr _ (by omega) (by omega), ?_⟩
      unfold num3
      omega
    · simp only [plusOk, Bool.and_eq_true, decide_eq_true_eq]
      rw [num3_split, hlow, hhi, hn1]
      refine ⟨hr _ (by omega) (by omega), hr _ (by omega) (by omega), hr _ (by omega) (by omega), hr _ (by omega) (by omega), hr _ (by omega) (by omega), ?_⟩
      omega

def pmulSum (f : FuncId) : Sum :=
  { f := f, ro := false
    S := fun args os => match args, os with
      | [.pointer (some ⟨0, 0, some 5⟩)], [⟨[.int .u64 r0, .int .u64 r1, .int .u64 h0, .int .u64 h1, .int .u64 h2], g, e, true⟩] =>
        some (.tuple ⟨[]⟩, [⟨polyC r0 r1 (foldP (num3 h0 h1 h2 * (r0 + 18446744073709551616 * r1))), g, e, true⟩], [])
      | _, _ => none
    C := fun args os => match os with
      | [⟨[.int .u64 r0, .int .u64 r1, .int .u64 h0, .int .u64 h1, .int .u64 h2], _, _, _⟩] => [(polyOk r0 r1 h0 h1 h2, true)]
      | _ => [] }

theorem pmulSum_sound {P : Program} {M : Mem} {f : FuncId} {fn : Func} (hf : P.funcs[f]? = some fn) (hn : (fn.name == "runtime.NumGoroutine") = false) (hb : fn.body.isSome = true)
    (h : ∀ (r0 r1 h0 h1 h2 : Int) (g : Bool) (e : Nat), Held (m4Pins r0 r1 h0 h1 h2 ++ mulRawPins (m4 r0 r1 h0 h1 h2)) → ACalls P M f [.pointer (some ⟨0, 0, some 5⟩)] [⟨[.int .u64 r0, .int .u64 r1, .int .u64 h0, .int .u64 h1, .int .u64 h2], g, e, true⟩]
      (.tuple ⟨[]⟩) [⟨mulRaw r0 r1 (m4 r0 r1 h0 h1 h2), g, e, true⟩] []) : (pmulSum f).SoundC P M := by
  refine sumC_sound hf hn hb fun args os v os' ns hs hp => ?_
  simp only [pmulSum] at hs hp ⊢
  split at hs
  · rename_i r0 r1 h0 h1 h2 g e
    cases hs
    refine ⟨?_, fun h => by cases h⟩
    have hc : polyOk r0 r1 h0 h1 h2 = true := hp (polyOk r0 r1 h0 h1 h2, true) (List.Mem.head _)
    obtain ⟨p1, e0, e1, e2, e3, x0, x1⟩ := m4_ok hc
    obtain ⟨hm, hh⟩ := mulRaw_ok (r0 := r0) (r1 := r1) e0 e1 e2 e3 x0 x1
    have := h r0 r1 h0 h1 h2 g e (fun x hx => by
      rcases List.mem_append.1 hx with hx | hx
      · exact p1 x hx
      · exact hh x hx)
    rw [hm] at this
    exact this
  · cases hs

/-! ### One piece -/
/-- The piece's seventeen bytes. -/
def fullL (cells : List Value) (f n : Nat) : List Value := (List.range 17).map fun i => bif Nat.blt i n then atC ((cells.drop f).take n) i else bif Nat.beq i n then .int .u8 1 else .int .u8 0

/-- The number of a piece. -/
def blkN (cells : List Value) (f n : Nat) : Int := val 256 (fun i => wd cells (f + i)) n + 256 ^ n

def pieceB (cells : List Value) (f s n : Nat) : Bool := decide (cells.length = s) && (decide (f + n ≤ s) && (List.range n).all fun i => isI .u8 (atC cells (f + i)) && hasB .u8 (wd cells (f + i)))

def pieceSum (f : FuncId) : Sum :=
  { f := f, ro := false
    S := fun args os => match args, os with
      | [.pointer (some ⟨0, 0, some 5⟩), .slice (some ⟨1, f1, some s⟩) n c], [⟨[.int .u64 r0, .int .u64 r1, .int .u64 h0, .int .u64 h1, .int .u64 h2], g, e, true⟩, ⟨cells, true, 1, true⟩] =>
        if Nat.blt 0 n && Nat.ble n 16 then some (.tuple ⟨[]⟩, [⟨polyC r0 r1 (foldP ((num3 h0 h1 h2 + blkN cells f1 n) * (r0 + 18446744073709551616 * r1))), g, e, true⟩, ⟨cells, true, 1, true⟩], []) else none
      | _, _ => none
    C := fun args os => match args, os with
      | [_, .slice (some ⟨1, f1, some s⟩) n c], [⟨[.int .u64 r0, .int .u64 r1, .int .u64 h0, .int .u64 h1, .int .u64 h2], _, _, _⟩, ⟨cells, _, _, _⟩] => [(polyOk r0 r1 h0 h1 h2 && decide (h2 ≤ 5), true), (pieceB cells f1 s n, true)]
      | _, _ => [] }

/-- What a piece asks for. -/
def w0 (cells : List Value) (f n : Nat) : Int := val 256 (fun i => wd (fullL cells f n) (0 + i)) 8
def w1 (cells : List Value) (f n : Nat) : Int := val 256 (fun i => wd (fullL cells f n) (8 + i)) 8
def pa0 (h0 : Int) (cells : List Value) (f n : Nat) : Int := h0 + w0 cells f n + 0
def pa1 (h0 h1 : Int) (cells : List Value) (f n : Nat) : Int := h1 + w1 cells f n + pa0 h0 cells f n / 18446744073709551616
def pa2 (h0 h1 h2 : Int) (cells : List Value) (f n : Nat) : Int := IntKind.u64.wrap (h2 + IntKind.u64.wrap (pa1 h0 h1 cells f n / 18446744073709551616 + IntKind.u64.wrap (wd (fullL cells f n) 16)))

def piecePins (r0 r1 h0 h1 h2 : Int) (cells : List Value) (f n : Nat) : Pins :=
  [(eightR (fullL cells f n) 0 17, true), (Nat.ble 8 17, true), (addB h0 (w0 cells f n) 0, true), (eightR (fullL cells f n) 8 17, true), (Nat.ble 8 9, true), (addB h1 (w1 cells f n) (pa0 h0 cells f n / 18446744073709551616), true),
   (polyOk r0 r1 (pa0 h0 cells f n % 18446744073709551616) (pa1 h0 h1 cells f n % 18446744073709551616) (pa2 h0 h1 h2 cells f n), true)]
def pieceRaw (r0 r1 h0 h1 h2 : Int) (cells : List Value) (f n : Nat) : List Value :=
  polyC r0 r1 (foldP (num3 (pa0 h0 cells f n % 18446744073709551616) (pa1 h0 h1 cells f n % 18446744073709551616) (pa2 h0 h1 h2 cells f n) * (r0 + 18446744073709551616 * r1)))

theorem wd_atC {l : List Value} {i : Nat} {k : IntKind} (h : isI k (atC l i) = true) : atC l i = .int k (wd l i) := isI_eq h

theorem full_eq {cells : List Value} {f s n : Nat} (h : pieceB cells f s n = true) (hn : n ≤ 16) : fullL cells f n = cellsI .u8 17 (fun i => bif Nat.blt i n then wd cells (f + i) else bif Nat.beq i n then 1 else 0) := by
  simp only [pieceB, Bool.and_eq_true, decide_eq_true_eq, List.all_eq_true, List.mem_range] at h
  obtain ⟨h1, h2, h3⟩ := h
  unfold fullL cellsI
  apply List.map_congr_left
  intro i hi
  have hi := List.mem_range.1 hi
  cases hb : Nat.blt i n with
  | true =>
    have hl := Nat.blt_eq.mp hb
    simp only [hb, cond_true]
    have := (h3 i hl).1
    rw [← wd_atC this]
    simp [atC, List.getElem?_take, hl]
  | false =>
    simp only [hb, cond_false]
    cases Nat.beq i n <;> rfl

theorem full_range {cells : List Value} {f s n : Nat} (h : pieceB cells f s n = true) : ∀ i, IntKind.u8.has ((fun i => bif Nat.blt i n then wd cells (f + i) else bif Nat.beq i n then (1 : Int) else 0) i) := by
  simp only [pieceB, Bool.and_eq_true, decide_eq_true_eq, List.all_eq_true, List.mem_range] at h
  obtain ⟨h1, h2, h3⟩ := h
  intro i
  cases hb : Nat.blt i n with
  | true =>
    have hl := Nat.blt_eq.mp hb
    simp only [hb, cond_true]
    exact hasB_iff.1 (h3 i hl).2
  | false =>
    simp only [hb, cond_false]
    cases Nat.beq i n
    · exact ⟨by decide, by decide⟩
    · exact ⟨by decide, by decide⟩

theorem blk_val (x : Nat → Int) {n : Nat} (hn : n ≤ 16) : val 256 (fun i => bif Nat.blt i n then x i else bif Nat.beq i n then (1 : Int) else 0) 17 = val 256 x n + 256 ^ n := by
  have key : ∀ m, n < m → val 256 (fun i => bif Nat.blt i n then x i else bif Nat.beq i n then (1 : Int) else 0) m = val 256 x n + 256 ^ n := by
    intro m
    induction m with
    | zero => intro h; omega
    | succ m ih =>
      intro h
      simp only [val]
      by_cases hm : m = n
      · subst hm
        have : Nat.blt m m = false := by rw [Bool.eq_false_iff]; exact fun e => by have := Nat.blt_eq.mp e; omega
        rw [this, Nat.beq_refl]
        simp only [cond_false, cond_true, Int.one_mul]
        congr 1
        exact val_congr fun i hi => by
          have : Nat.blt i m = true := Nat.blt_eq.mpr hi
          rw [this]; rfl
      · rw [ih (by omega)]
        have h1 : Nat.blt m n = false := by rw [Bool.eq_false_iff]; exact fun e => by have := Nat.blt_eq.mp e; omega
        have h2 : Nat.beq m n = false := by rw [Bool.eq_false_iff]; exact fun e => hm (Nat.eq_of_beq_eq_true e)
        rw [h1, h2]
        simp
  exact key 17 (by omega)

theorem four_c {k : Nat → Int} {n f : Nat} (h : f + 4 ≤ n) : four (cellsI .u8 n k) f n = true := by
  have a : ∀ i, i < n → isI .u8 (atC (cellsI .u8 n k) i) = true := fun i hi => by simp [atC, cellsI, hi, isI]
  simp only [four, cellsI_length, Nat.beq_refl, a f (by omega), a (f + 1) (by omega), a (f + 2) (by omega), a (f + 3) (by omega), Bool.and_self]
theorem eight_c {k : Nat → Int} {n f : Nat} (h : f + 8 ≤ n) (hk : ∀ i, IntKind.u8.has (k i)) : eightR (cellsI .u8 n k) f n = true := by
  simp only [eightR, four_c (k := k) (show f + 4 ≤ n by omega), four_c (k := k) (show f + 4 + 4 ≤ n by omega), Bool.true_and, List.all_eq_true, List.mem_range]
  intro i hi
  rw [wd_cellsI (by omega)]
  exact hasB_iff.2 (hk _)

theorem piece_ok {r0 r1 h0 h1 h2 : Int} {cells : List Value} {f s n : Nat} (hp : polyOk r0 r1 h0 h1 h2 = true) (h5 : h2 ≤ 5) (hb : pieceB cells f s n = true) (hn : n ≤ 16) :
    pieceRaw r0 r1 h0 h1 h2 cells f n = polyC r0 r1 (foldP ((num3 h0 h1 h2 + blkN cells f n) * (r0 + 18446744073709551616 * r1))) ∧ Held (piecePins r0 r1 h0 h1 h2 cells f n) := by
  obtain ⟨⟨a1, a2⟩, ⟨b1, b2⟩, c, d, e1, e2⟩ := polyOk_iff.1 hp
  obtain ⟨c1, c2⟩ := has_u64 c
  obtain ⟨d1, d2⟩ := has_u64 d
  have hf := full_eq hb hn
  have hr := full_range hb
  generalize hx : (fun i => bif Nat.blt i n then wd cells (f + i) else bif Nat.beq i n then (1 : Int) else 0) = x at *
  have hv : val 256 x 17 = blkN cells f n := by rw [← hx]; exact blk_val (fun i => wd cells (f + i)) hn
  have e8 : (256 : Int) ^ 8 = 18446744073709551616 := by decide
  have s1 : val 256 x 17 = val 256 x 8 + 18446744073709551616 * (val 256 (fun i => x (8 + i)) 8 + 18446744073709551616 * x 16) := by
    rw [show 17 = 8 + 9 from rfl, val_split, e8, show 9 = 8 + 1 from rfl, val_split, e8]
    have : val 256 (fun i => x (8 + (8 + i))) 1 = x 16 := by simp [val]
    rw [this]
  have q0 : w0 cells f n = val 256 x 8 := by
    unfold w0
    rw [hf]
    exact val_congr fun i hi => by rw [wd_cellsI (by omega), Nat.zero_add]
  have q1 : w1 cells f n = val 256 (fun i => x (8 + i)) 8 := by
    unfold w1
    rw [hf]
    exact val_congr fun i hi => by rw [wd_cellsI (by omega)]
  have q2 : wd (fullL cells f n) 16 = x 16 := by rw [hf, wd_cellsI (by omega)]
  have r0' := val_range (B := 256) (by decide) (d := x) (n := 8) fun i _ => by have := has_u8 (hr i); omega
  have r1' := val_range (B := 256) (by decide) (d := fun i => x (8 + i)) (n := 8) fun i _ => by have := has_u8 (hr (8 + i)); omega
  have hx16 : 0 ≤ x 16 ∧ x 16 ≤ 1 := by
    rw [← hx]
    have hb16 : Nat.blt 16 n = false := by rw [Bool.eq_false_iff]; exact fun e => by have := Nat.blt_eq.mp e; omega
    simp only [hb16, cond_false]
    cases Nat.beq 16 n <;> simp
  rw [e8] at r0' r1'
  rw [← q0, ← q1] at s1
  rw [← q0] at r0'
  rw [← q1] at r1'
  have hsum : num3 (pa0 h0 cells f n % 18446744073709551616) (pa1 h0 h1 cells f n % 18446744073709551616) (pa2 h0 h1 h2 cells f n) = num3 h0 h1 h2 + blkN cells f n ∧ 0 ≤ pa2 h0 h1 h2 cells f n ∧ pa2 h0 h1 h2 cells f n ≤ 7 ∧
      0 ≤ pa0 h0 cells f n / 18446744073709551616 ∧ pa0 h0 cells f n / 18446744073709551616 ≤ 1 := by
    rw [← hv, s1]
    unfold pa2 pa1 pa0 num3
    rw [q2]
    simp only [wrap_u64]
    generalize w0 cells f n = a at *
    generalize w1 cells f n = b at *
    generalize x 16 = t at *
    refine ⟨by omega, by omega, by omega, by omega, by omega⟩
  obtain ⟨g1, g2, g3, g4, g5⟩ := hsum
  refine ⟨by unfold pieceRaw; rw [g1], ?_⟩
  have h64 := fun (n : Int) (p : 0 ≤ n) (q : n ≤ 18446744073709551615) => has64 p q
  unfold piecePins
  refine held_cons (by rw [hf]; exact eight_c (by omega) hr) (held_cons rfl (held_cons (addB_iff.2 ⟨c, h64 _ (by omega) (by omega), by omega, by omega⟩) (held_cons (by rw [hf]; exact eight_c (by omega) hr) (held_cons rfl
    (held_cons (addB_iff.2 ⟨d, h64 _ (by omega) (by omega), g4, g5⟩) (held_one (polyOk_iff.2 ⟨⟨a1, a2⟩, ⟨b1, b2⟩, h64 _ (by omega) (by omega), h64 _ (by omega) (by omega), g2, g3⟩)))))))

end Go.Num
