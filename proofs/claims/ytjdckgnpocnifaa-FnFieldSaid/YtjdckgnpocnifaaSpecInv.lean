/- The specification's power p - 2.
   Conditions: the digits are in bounds. -/
import Derived.Test.YtjdckgnpocnifaaSpecBit
open Go.Ab Go.Num
set_option linter.unusedVariables false
set_option linter.unusedSimpArgs false
namespace Go.Proofs.Ytjdckgnpocnifaa

theorem dg65 {x : Nat → Int} (h : Dg 65536 16 x) : ∀ i, i < 16 → 0 ≤ x i ∧ x i ≤ 65535 := fun i hi => by have := h i hi; omega
theorem mulD_dd {x y : Nat → Int} (hx : Dg 65536 16 x) (hy : Dg 65536 16 y) : Dg 65536 16 (mulD x y) := mulD_dg (dg65 hx) (dg65 hy)
theorem dg_of {A : List Value} (hA : isD A = true) (h : leB 65535 A = true) : Dg 65536 16 (wd A) := fun i hi => by have := leB_d hA h i hi; omega
noncomputable def I41 (M : Mem) : Sum := inl Try.prog M (fns []) 1000 41 Try.f41
theorem I41_s (M : Mem) : (I41 M).Sound Try.prog M := inl_sound fns_nil mix Try.func41 (by kernel_rfl) (by kernel_rfl)
theorem dgw {x : Nat → Int} (h : Dg 65536 16 x) : Dg 65536 16 (wd (cellsI .i64 16 x)) := fun i hi => by rw [wd_cellsI hi]; exact h i hi

/-! ### The power -/
noncomputable def loop30 : Code := loopOf 0 (Try.f30.body.getD .skip)
set_option maxRecDepth 100000 in
theorem occ30 : occ 0 (Try.f30.body.getD .skip) = [.loop loop30] := by kernel_rfl

def sqN (r : Nat → Int) : Nat → Int := mulD (wd (cellsI .i64 16 r)) (wd (cellsI .i64 16 r))
def sqNN (r a : Nat → Int) : Nat → Int := mulD (wd (cellsI .i64 16 (sqN r))) (wd (cellsI .i64 16 a))
def rd2 (r a : Nat → Int) : Bool := leB 65535 (cellsI .i64 16 r) && leB 65535 (cellsI .i64 16 a)

set_option maxRecDepth 100000 in
theorem step30m (M : Mem) (r a : Nat → Int) (o2 : AObj) (g g2 : Bool) (e e2 : Nat) (v2 : Value) (k : Int) (z : Nat → Value) :
   viewU [1, 2, 3, 4] (evU Try.prog M (ovX Try.prog M) [] [] [opDSum 21 mulD] [7, 14, 17] 300 loop30 ⟨mkT 23 [1, 2, 3, 4] [.pointer (some ⟨0, 0, some 16⟩), v2, .pointer (some ⟨2, 0, some 16⟩), .int .i64 k] z, [some ⟨cellsI .i64 16 a, g, e, true⟩, some o2, some ⟨cellsI .i64 16 r, g2, e2, true⟩]⟩ [true, true, true])
   = some (.normal, [.pointer (some ⟨0, 0, some 16⟩), v2, .pointer (some ⟨2, 0, some 16⟩), .int .i64 (IntKind.i64.wrap (k - 1))], [some ⟨cellsI .i64 16 a, g, e, true⟩, some o2, some ⟨cellsI .i64 16 (sqNN r a), g2, e2, true⟩], 23,
      [(decide (k ≥ 0), true), (rd2 r r, true), (k != 2, true), (k != 4, true), (rd2 (sqN r) a, true)]) := by kernel_rfl
set_option maxRecDepth 100000 in
theorem step30a (M : Mem) (r a : Nat → Int) (o2 : AObj) (g g2 : Bool) (e e2 : Nat) (v2 : Value) (k : Int) (z : Nat → Value) :
   viewU [1, 2, 3, 4] (evU Try.prog M (ovX Try.prog M) [] [] [opDSum 21 mulD] [7, 14, 17] 300 loop30 ⟨mkT 23 [1, 2, 3, 4] [.pointer (some ⟨0, 0, some 16⟩), v2, .pointer (some ⟨2, 0, some 16⟩), .int .i64 k] z, [some ⟨cellsI .i64 16 a, g, e, true⟩, some o2, some ⟨cellsI .i64 16 r, g2, e2, true⟩]⟩ [true, false])
   = some (.normal, [.pointer (some ⟨0, 0, some 16⟩), v2, .pointer (some ⟨2, 0, some 16⟩), .int .i64 (IntKind.i64.wrap (k - 1))], [some ⟨cellsI .i64 16 a, g, e, true⟩, some o2, some ⟨cellsI .i64 16 (sqN r), g2, e2, true⟩], 23,
      [(decide (k ≥ 0), true), (rd2 r r, true), (k != 2, false)]) := by kernel_rfl
set_option maxRecDepth 100000 in
theorem step30b (M : Mem) (r a : Nat → Int) (o2 : AObj) (g g2 : Bool) (e e2 : Nat) (v2 : Value) (k : Int) (z : Nat → Value) :
   viewU [1, 2, 3, 4] (evU Try.prog M (ovX Try.prog M) [] [] [opDSum 21 mulD] [7, 14, 17] 300 loop30 ⟨mkT 23 [1, 2, 3, 4] [.pointer (some ⟨0, 0, some 16⟩), v2, .pointer (some ⟨2, 0, some 16⟩), .int .i64 k] z, [some ⟨cellsI .i64 16 a, g, e, true⟩, some o2, some ⟨cellsI .i64 16 r, g2, e2, true⟩]⟩ [true, true, false])
   = some (.normal, [.pointer (some ⟨0, 0, some 16⟩), v2, .pointer (some ⟨2, 0, some 16⟩), .int .i64 (IntKind.i64.wrap (k - 1))], [some ⟨cellsI .i64 16 a, g, e, true⟩, some o2, some ⟨cellsI .i64 16 (sqN r), g2, e2, true⟩], 23,
      [(decide (k ≥ 0), true), (rd2 r r, true), (k != 2, true), (k != 4, false)]) := by kernel_rfl
set_option maxRecDepth 100000 in
theorem last30 (M : Mem) (H : AHeap) (v1 v2 v3 : Value) (k : Int) (z : Nat → Value) :
   viewU [2, 3] (evU Try.prog M (ovX Try.prog M) [] [] [opDSum 21 mulD] [7, 14, 17] 300 loop30 ⟨mkT 23 [1, 2, 3, 4] [v1, v2, v3, .int .i64 k] z, H⟩ [false])
   = some (.exit 0, [v2, v3], H, 23, [(decide (k ≥ 0), false)]) := by kernel_rfl

/-- The power on the way. -/
def IWr (r a : Nat → Int) : Nat → (Nat → Int)
  | 0 => r
  | n + 1 => if n = 252 ∨ n = 250 then sqN (IWr r a n) else sqNN (IWr r a n) a

theorem sqN_bd {r : Nat → Int} (h : Dg 65536 16 r) : Dg 65536 16 (sqN r) := mulD_dd (dgw h) (dgw h)
theorem sqNN_bd {r a : Nat → Int} (h : Dg 65536 16 r) (ha : Dg 65536 16 a) : Dg 65536 16 (sqNN r a) := mulD_dd (dgw (sqN_bd h)) (dgw ha)
theorem IWr_bd {r a : Nat → Int} (h : Dg 65536 16 r) (ha : Dg 65536 16 a) : ∀ n, Dg 65536 16 (IWr r a n) := by
  intro n
  induction n with
  | zero => exact h
  | succ n ih =>
    simp only [IWr]
    split
    · exact sqN_bd ih
    · exact sqNN_bd ih ha

theorem sqN_eqp (r : Nat → Int) : Eqp (val D16 (sqN r) 16) (val D16 r 16 * val D16 r 16) := by
  have := mulD_eqp (wd (cellsI .i64 16 r)) (wd (cellsI .i64 16 r))
  rwa [wd_val] at this
theorem sqNN_eqp (r a : Nat → Int) : Eqp (val D16 (sqNN r a) 16) (val D16 r 16 * val D16 r 16 * val D16 a 16) := by
  have := mulD_eqp (wd (cellsI .i64 16 (sqN r))) (wd (cellsI .i64 16 a))
  rw [wd_val, wd_val] at this
  exact this.trans ((sqN_eqp r).mul (.refl _))

theorem IWr_eqp {r a : Nat → Int} (hr : val D16 r 16 = 1) : ∀ n, Eqp (val D16 (IWr r a n) 16) (pwr (val D16 a 16) n) := by
  intro n
  induction n with
  | zero => exact hr ▸ .refl _
  | succ n ih =>
    simp only [IWr, pwr]
    split
    · exact (sqN_eqp _).trans (ih.mul ih)
    · exact (sqNN_eqp _ _).trans ((ih.mul ih).mul (.refl _))

def hook30 (vs : List Value) (H : AHeap) : Option (AExit × List Value × AHeap × Pins) :=
  match vs, H with
  | [.pointer (some ⟨0, 0, some 16⟩), v2, .pointer (some ⟨2, 0, some 16⟩), .int .i64 k], [some ⟨A, g, e, true⟩, some o2, some ⟨R, g2, e2, true⟩] =>
    if isD A && isD R then some (.normal, [v2, .pointer (some ⟨2, 0, some 16⟩)], [some ⟨A, g, e, true⟩, some o2, some ⟨cellsI .i64 16 (IWr (wd R) (wd A) 255), g2, e2, true⟩], [(decide (k = 254), true), (leB 65535 A, true), (leB 65535 R, true)]) else none
  | _, _ => none

theorem rd2_of {r a : Nat → Int} (h : Dg 65536 16 r) (ha : Dg 65536 16 a) : rd2 r a = true := by unfold rd2; rw [le_dg h, le_dg ha]; rfl

theorem step30 (M : Mem) {r a : Nat → Int} (hr : Dg 65536 16 r) (ha : Dg 65536 16 a) (o2 : AObj) (g g2 : Bool) (e e2 : Nat) (v2 : Value) {i : Nat} (hi : i < 255) (z : Nat → Value) :
    ∃ z', Big Try.prog M loop30 ⟨mkT 23 [1, 2, 3, 4] [.pointer (some ⟨0, 0, some 16⟩), v2, .pointer (some ⟨2, 0, some 16⟩), .int .i64 (254 - (i : Int))] z, [some ⟨cellsI .i64 16 a, g, e, true⟩, some o2, some ⟨cellsI .i64 16 (IWr r a i), g2, e2, true⟩]⟩ .normal
      ⟨mkT 23 [1, 2, 3, 4] [.pointer (some ⟨0, 0, some 16⟩), v2, .pointer (some ⟨2, 0, some 16⟩), .int .i64 (254 - ((i + 1 : Nat) : Int))] z', [some ⟨cellsI .i64 16 a, g, e, true⟩, some o2, some ⟨cellsI .i64 16 (IWr r a (i + 1)), g2, e2, true⟩]⟩ := by
  have hl : ∀ s ∈ [opDSum 21 mulD], s.SoundC Try.prog M := consC (mul21 M) nilC
  have hb := IWr_bd hr ha i
  have ew : IntKind.i64.wrap (254 - (i : Int) - 1) = 254 - ((i + 1 : Nat) : Int) := by rw [w64 (by omega) (by omega)]; omega
  have h0 : decide (254 - (i : Int) ≥ 0) = true := by rw [decide_eq_true_eq]; omega
  by_cases h2 : i = 252
  · subst h2
    obtain ⟨z', h⟩ := big_view (ovX_ok _ _) hl mix (hooksOk_nil _) (step30a M (IWr r a 252) a o2 g g2 e e2 v2 (254 - ((252 : Nat) : Int)) z) (held_cons h0 (held_cons (rd2_of hb hb) (held_one (by decide))))
    rw [ew] at h
    exact ⟨z', h⟩
  · by_cases h4 : i = 250
    · subst h4
      obtain ⟨z', h⟩ := big_view (ovX_ok _ _) hl mix (hooksOk_nil _) (step30b M (IWr r a 250) a o2 g g2 e e2 v2 (254 - ((250 : Nat) : Int)) z) (held_cons h0 (held_cons (rd2_of hb hb) (held_cons (by decide) (held_one (by decide)))))
      rw [ew] at h
      exact ⟨z', h⟩
    · obtain ⟨z', h⟩ := big_view (ovX_ok _ _) hl mix (hooksOk_nil _) (step30m M (IWr r a i) a o2 g g2 e e2 v2 (254 - (i : Int)) z) (held_cons h0 (held_cons (rd2_of hb hb) (held_cons (by rw [bne_iff_ne]; omega) (held_cons (by rw [bne_iff_ne]; omega) (held_one (rd2_of (sqN_bd hb) ha))))))
      rw [ew] at h
      have : IWr r a (i + 1) = sqNN (IWr r a i) a := by simp only [IWr]; rw [if_neg (by omega)]
      rw [this]
      exact ⟨z', h⟩

theorem hook30_ok (M : Mem) : HooksOk Try.prog M [(0, mkHook Try.prog M 0 (.loop loop30) 23 [2, 3] hook30 [1, 2, 3, 4])] (Try.f30.body.getD .skip) := by
  refine hooks_one occ30 (mkHook_ok fun vs H0 e V H p z hf hp => ?_)
  unfold hook30 at hf
  split at hf
  · rename_i v2 k A g e1 o2 R g2 e2
    split at hf
    · rename_i hA
      cases hf
      simp only [Bool.and_eq_true] at hA
      have hk : k = 254 := by have := hp (decide (k = 254), true) (List.Mem.head _); simpa using this
      have hlA : leB 65535 A = true := hp (leB 65535 A, true) (List.Mem.tail _ (List.Mem.head _))
      have hlR : leB 65535 R = true := hp (leB 65535 R, true) (List.Mem.tail _ (List.Mem.tail _ (List.Mem.head _)))
      subst hk
      have bA := dg_of hA.1 hlA
      have bR := dg_of hA.2 hlR
      obtain ⟨z', hz⟩ := loop_big (n := 255) (live := [1, 2, 3, 4]) (live' := [2, 3]) (V := fun i => [.pointer (some ⟨0, 0, some 16⟩), v2, .pointer (some ⟨2, 0, some 16⟩), .int .i64 (254 - (i : Int))])
        (H := fun i => [some ⟨cellsI .i64 16 (wd A), g, e1, true⟩, some o2, some ⟨cellsI .i64 16 (IWr (wd R) (wd A) i), g2, e2, true⟩]) (e := .exit 0) (by simp)
        (fun i hi z => step30 M bR bA o2 g g2 e1 e2 v2 hi z)
        (fun z => big_view (ovX_ok _ _) (consC (mul21 M) nilC) mix (hooksOk_nil _) (last30 M _ _ v2 _ (254 - ((255 : Nat) : Int)) z) (held_one (by decide))) z
      have h0 : cellsI .i64 16 (IWr (wd R) (wd A) 0) = R := (isD_eq hA.2).symm
      simp only [h0, ← isD_eq hA.1] at hz
      exact ⟨z', block_big hz⟩
    · cases hf
  · cases hf

def oneD (i : Nat) : Int := bif Nat.beq i 0 then 1 else 0

set_option maxRecDepth 100000 in
theorem r30 (M : Mem) (a : Nat → Int) : evFU Try.prog M (ovX Try.prog M) [] [(0, mkHook Try.prog M 0 (.loop loop30) 23 [2, 3] hook30 [1, 2, 3, 4])] [I41 M] [] 300 Try.f30 [.agg ⟨cellsI .i64 16 a⟩] [] []
   = some ((.agg ⟨cellsI .i64 16 (IWr (wd (cellsI .i64 16 oneD)) (wd (cellsI .i64 16 a)) 255)⟩, [], []), [(decide ((254 : Int) = 254), true), (leB 65535 (cellsI .i64 16 a), true), (leB 65535 (cellsI .i64 16 oneD), true)]) := by kernel_rfl

theorem oneD_bd : Dg 65536 16 oneD := fun i _ => by unfold oneD; cases Nat.beq i 0 <;> simp

def invD (a : Nat → Int) : Nat → Int := IWr (wd (cellsI .i64 16 oneD)) (wd (cellsI .i64 16 a)) 255
theorem invD_bd {a : Nat → Int} (ha : Dg 65536 16 a) : Dg 65536 16 (invD a) := IWr_bd (dgw oneD_bd) (dgw ha) 255
theorem invD_eqp (a : Nat → Int) : Eqp (val D16 (invD a) 16) (pwr (val D16 a 16) 255) := by
  have := IWr_eqp (r := wd (cellsI .i64 16 oneD)) (a := wd (cellsI .i64 16 a)) (by rw [wd_val]; decide +kernel) 255
  rwa [wd_val] at this

def invSum (f : FuncId) : Sum :=
  { f := f, ro := true
    S := fun args os => match args, os with
      | [.agg ⟨A⟩], [] => if isD A then some (.agg ⟨cellsI .i64 16 (invD (wd A))⟩, [], []) else none
      | _, _ => none
    C := fun args _ => match args with
      | [.agg ⟨A⟩] => [(leB 65535 A, true)]
      | _ => [] }

theorem inv30 (M : Mem) : (invSum 30).SoundC Try.prog M := sumC_sound Try.func30 (by kernel_rfl) (by kernel_rfl) fun args os v os' ns hs hp => by
  simp only [invSum] at hs hp ⊢
  split at hs
  · rename_i A
    split at hs
    · rename_i hA
      cases hs
      have hb : leB 65535 A = true := hp (leB 65535 A, true) (List.Mem.head _)
      have := acalls_of_evFU (ovX_ok _ _) (consC (I41_s M).c nilC) mix Try.func30 (hook30_ok M) (r30 M (wd A)) (held_cons rfl (held_cons (le_dg (dg_of hA hb)) (held_one (le_dg oneD_bd))))
      have el : [Value.agg ⟨A⟩] = [Value.agg ⟨cellsI .i64 16 (wd A)⟩] := congrArg (fun l => [Value.agg ⟨l⟩]) (isD_eq hA)
      refine ⟨?_, fun _ => rfl⟩
      rw [el]
      exact this
    · cases hs
  · cases hs

end Go.Proofs.Ytjdckgnpocnifaa
