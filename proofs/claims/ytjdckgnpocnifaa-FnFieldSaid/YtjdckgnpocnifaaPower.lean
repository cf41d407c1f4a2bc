/- The program's power p - 2.
   Conditions: the limbs are in bounds. -/
import Derived.Test.YtjdckgnpocnifaaAdd
open Go.Ab Go.Num
set_option linter.unusedVariables false
set_option linter.unusedSimpArgs false
namespace Go.Proofs.Ytjdckgnpocnifaa

/-- The power on the way. -/
def PWr (r a : Nat → Int) : Nat → (Nat → Int)
  | 0 => r
  | n + 1 => if n = 252 ∨ n = 250 then sqM (PWr r a n) else sqMM (PWr r a n) a

theorem sqM_bd {r : Nat → Int} (h : Bd RB r) : Bd RB (sqM r) := mulE_bd (bd_wd h) (bd_wd h)
theorem sqMM_bd {r a : Nat → Int} (h : Bd RB r) (ha : Bd RB a) : Bd RB (sqMM r a) := mulE_bd (bd_wd (sqM_bd h)) (bd_wd ha)
theorem PWr_bd {r a : Nat → Int} (h : Bd RB r) (ha : Bd RB a) : ∀ n, Bd RB (PWr r a n) := by
  intro n
  induction n with
  | zero => exact h
  | succ n ih =>
    simp only [PWr]
    split
    · exact sqM_bd ih
    · exact sqMM_bd ih ha

theorem sqM_eqp (r : Nat → Int) : Eqp (val B51 (sqM r) 5) (val B51 r 5 * val B51 r 5) := by
  have := mulE_eqp (wd (cellsI .u64 5 r)) (wd (cellsI .u64 5 r))
  rwa [wd_val] at this
theorem sqMM_eqp (r a : Nat → Int) : Eqp (val B51 (sqMM r a) 5) (val B51 r 5 * val B51 r 5 * val B51 a 5) := by
  have := mulE_eqp (wd (cellsI .u64 5 (sqM r))) (wd (cellsI .u64 5 a))
  rw [wd_val, wd_val] at this
  exact this.trans ((sqM_eqp r).mul (.refl _))

theorem PWr_eqp {r a : Nat → Int} (hr : val B51 r 5 = 1) : ∀ n, Eqp (val B51 (PWr r a n) 5) (pwr (val B51 a 5) n) := by
  intro n
  induction n with
  | zero => exact hr ▸ .refl _
  | succ n ih =>
    simp only [PWr, pwr]
    split
    · exact (sqM_eqp _).trans (ih.mul ih)
    · exact (sqMM_eqp _ _).trans ((ih.mul ih).mul (.refl _))

def hook33 (vs : List Value) (H : AHeap) : Option (AExit × List Value × AHeap × Pins) :=
  match vs, H with
  | [.pointer (some ⟨0, 0, some 5⟩), v2, .pointer (some ⟨2, 0, some 5⟩), .int .i64 k], [some ⟨A, g, e, true⟩, some o2, some ⟨R, g2, e2, true⟩] =>
    if isE A && isE R then some (.normal, [v2, .pointer (some ⟨2, 0, some 5⟩)], [some ⟨A, g, e, true⟩, some o2, some ⟨cellsI .u64 5 (PWr (wd R) (wd A) 255), g2, e2, true⟩], [(decide (k = 254), true), (leB RB A, true), (leB RB R, true)]) else none
  | _, _ => none

theorem rb2_of {r a : Nat → Int} (h : Bd RB r) (ha : Bd RB a) : rb2 r a = true := by unfold rb2; rw [bd_le (Int.le_refl _) h, bd_le (Int.le_refl _) ha]; rfl

theorem step33 (M : Mem) {r a : Nat → Int} (hr : Bd RB r) (ha : Bd RB a) (o2 : AObj) (g g2 : Bool) (e e2 : Nat) (v2 : Value) {i : Nat} (hi : i < 255) (z : Nat → Value) :
    ∃ z', Big Try.prog M loop33 ⟨mkT 23 [1, 2, 3, 4] [.pointer (some ⟨0, 0, some 5⟩), v2, .pointer (some ⟨2, 0, some 5⟩), .int .i64 (254 - (i : Int))] z, [some ⟨cellsI .u64 5 a, g, e, true⟩, some o2, some ⟨cellsI .u64 5 (PWr r a i), g2, e2, true⟩]⟩ .normal
      ⟨mkT 23 [1, 2, 3, 4] [.pointer (some ⟨0, 0, some 5⟩), v2, .pointer (some ⟨2, 0, some 5⟩), .int .i64 (254 - ((i + 1 : Nat) : Int))] z', [some ⟨cellsI .u64 5 a, g, e, true⟩, some o2, some ⟨cellsI .u64 5 (PWr r a (i + 1)), g2, e2, true⟩]⟩ := by
  have hl : ∀ s ∈ [opESum 25 mulE], s.SoundC Try.prog M := consC (mul25 M) nilC
  have hb := PWr_bd hr ha i
  have ew : IntKind.i64.wrap (254 - (i : Int) - 1) = 254 - ((i + 1 : Nat) : Int) := by rw [w64 (by omega) (by omega)]; omega
  have h0 : decide (254 - (i : Int) ≥ 0) = true := by rw [decide_eq_true_eq]; omega
  by_cases h2 : i = 252
  · subst h2
    obtain ⟨z', h⟩ := big_view (ovX_ok _ _) hl mix (hooksOk_nil _) (step33a M (PWr r a 252) a o2 g g2 e e2 v2 (254 - ((252 : Nat) : Int)) z) (held_cons h0 (held_cons (rb2_of hb hb) (held_one (by decide))))
    rw [ew] at h
    exact ⟨z', h⟩
  · by_cases h4 : i = 250
    · subst h4
      obtain ⟨z', h⟩ := big_view (ovX_ok _ _) hl mix (hooksOk_nil _) (step33b M (PWr r a 250) a o2 g g2 e e2 v2 (254 - ((250 : Nat) : Int)) z) (held_cons h0 (held_cons (rb2_of hb hb) (held_cons (by decide) (held_one (by decide)))))
      rw [ew] at h
      exact ⟨z', h⟩
    · obtain ⟨z', h⟩ := big_view (ovX_ok _ _) hl mix (hooksOk_nil _) (step33m M (PWr r a i) a o2 g g2 e e2 v2 (254 - (i : Int)) z) (held_cons h0 (held_cons (rb2_of hb hb) (held_cons (by rw [bne_iff_ne]; omega) (held_cons (by rw [bne_iff_ne]; omega) (held_one (rb2_of (sqM_bd hb) ha))))))
      rw [ew] at h
      have : PWr r a (i + 1) = sqMM (PWr r a i) a := by simp only [PWr]; rw [if_neg (by omega)]
      rw [this]
      exact ⟨z', h⟩

theorem hook33_ok (M : Mem) : HooksOk Try.prog M [(0, mkHook Try.prog M 0 (.loop loop33) 23 [2, 3] hook33 [1, 2, 3, 4])] (Try.f33.body.getD .skip) := by
  refine hooks_one occ33 (mkHook_ok fun vs H0 e V H p z hf hp => ?_)
  unfold hook33 at hf
  split at hf
  · rename_i v2 k A g e1 o2 R g2 e2
    split at hf
    · rename_i hA
      cases hf
      simp only [Bool.and_eq_true] at hA
      have hk : k = 254 := by have := hp (decide (k = 254), true) (List.Mem.head _); simpa using this
      have hlA : leB RB A = true := hp (leB RB A, true) (List.Mem.tail _ (List.Mem.head _))
      have hlR : leB RB R = true := hp (leB RB R, true) (List.Mem.tail _ (List.Mem.tail _ (List.Mem.head _)))
      subst hk
      have bA := leB_bd hA.1 hlA
      have bR := leB_bd hA.2 hlR
      obtain ⟨z', hz⟩ := loop_big (n := 255) (live := [1, 2, 3, 4]) (live' := [2, 3]) (V := fun i => [.pointer (some ⟨0, 0, some 5⟩), v2, .pointer (some ⟨2, 0, some 5⟩), .int .i64 (254 - (i : Int))])
        (H := fun i => [some ⟨cellsI .u64 5 (wd A), g, e1, true⟩, some o2, some ⟨cellsI .u64 5 (PWr (wd R) (wd A) i), g2, e2, true⟩]) (e := .exit 0) (by simp)
        (fun i hi z => step33 M bR bA o2 g g2 e1 e2 v2 hi z)
        (fun z => big_view (ovX_ok _ _) (consC (mul25 M) nilC) mix (hooksOk_nil _) (last33 M _ _ v2 _ (254 - ((255 : Nat) : Int)) z) (held_one (by decide))) z
      have h0 : cellsI .u64 5 (PWr (wd R) (wd A) 0) = R := (isE_eq hA.2).symm
      simp only [h0, ← isE_eq hA.1] at hz
      exact ⟨z', block_big hz⟩
    · cases hf
  · cases hf

def oneE (i : Nat) : Int := bif Nat.beq i 0 then 1 else 0

set_option maxRecDepth 100000 in
theorem r33 (M : Mem) (a : Nat → Int) : evFU Try.prog M (ovX Try.prog M) [] [(0, mkHook Try.prog M 0 (.loop loop33) 23 [2, 3] hook33 [1, 2, 3, 4])] [] [] 300 Try.f33 [.agg ⟨cellsI .u64 5 a⟩] [] []
   = some ((.agg ⟨cellsI .u64 5 (PWr (wd (cellsI .u64 5 oneE)) (wd (cellsI .u64 5 a)) 255)⟩, [], []), [(decide ((254 : Int) = 254), true), (leB RB (cellsI .u64 5 a), true), (leB RB (cellsI .u64 5 oneE), true)]) := by kernel_rfl

theorem oneE_bd : Bd RB oneE := fun i _ => by unfold oneE RB; cases Nat.beq i 0 <;> simp

def powE (a : Nat → Int) : Nat → Int := PWr (wd (cellsI .u64 5 oneE)) (wd (cellsI .u64 5 a)) 255
theorem powE_bd {a : Nat → Int} (ha : Bd RB a) : Bd RB (powE a) := PWr_bd (bd_wd oneE_bd) (bd_wd ha) 255
theorem powE_eqp (a : Nat → Int) : Eqp (val B51 (powE a) 5) (pwr (val B51 a 5) 255) := by
  have := PWr_eqp (r := wd (cellsI .u64 5 oneE)) (a := wd (cellsI .u64 5 a)) (by rw [wd_val]; decide +kernel) 255
  rwa [wd_val] at this

def powSum (f : FuncId) : Sum :=
  { f := f, ro := true
    S := fun args os => match args, os with
      | [.agg ⟨A⟩], [] => if isE A then some (.agg ⟨cellsI .u64 5 (powE (wd A))⟩, [], []) else none
      | _, _ => none
    C := fun args _ => match args with
      | [.agg ⟨A⟩] => [(leB RB A, true)]
      | _ => [] }

theorem pow33 (M : Mem) : (powSum 33).SoundC Try.prog M := sumC_sound Try.func33 (by kernel_rfl) (by kernel_rfl) fun args os v os' ns hs hp => by
  simp only [powSum] at hs hp ⊢
  split at hs
  · rename_i A
    split at hs
    · rename_i hA
      cases hs
      have hb : leB RB A = true := hp (leB RB A, true) (List.Mem.head _)
      have := acalls_of_evFU (ovX_ok _ _) nilC mix Try.func33 (hook33_ok M) (r33 M (wd A)) (held_cons rfl (held_cons (bd_le (Int.le_refl _) (leB_bd hA hb)) (held_one (bd_le (Int.le_refl _) oneE_bd))))
      have el : [Value.agg ⟨A⟩] = [Value.agg ⟨cellsI .u64 5 (wd A)⟩] := congrArg (fun l => [Value.agg ⟨l⟩]) (isE_eq hA)
      refine ⟨?_, fun _ => rfl⟩
      rw [el]
      exact this
    · cases hs
  · cases hs

end Go.Proofs.Ytjdckgnpocnifaa
