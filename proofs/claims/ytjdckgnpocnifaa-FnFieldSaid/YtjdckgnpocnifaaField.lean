/- The law FnField returns true of whatever bytes the draws come from, which read behind the call as before.
   Conditions: none. -/
import Derived.Test.YtjdckgnpocnifaaAbD
import Derived.Test.YtjdckgnpocnifaaAgree
open Go.Ab Go.Num
set_option linter.unusedVariables false
set_option linter.unusedSimpArgs false
namespace Go.Proofs.Ytjdckgnpocnifaa

/-! ### Points near an edge -/
set_option maxRecDepth 100000 in
theorem dEsa (M : Mem) (b off n c : Nat) (i x : Int) (g : Bool) (e : Nat) : evFC Try.prog M [nSumG M 19, oneSumG M 27] [24] 2000 Try.f28 [.pointer (some ⟨0, 0, some 3⟩)] [⟨[.slice (some ⟨b, off, none⟩) n c, .int .i64 i, .int .u64 x], g, e, false⟩] [false]
   = some ((.agg ⟨cellsI .u8 32 (fun j => bif Nat.beq j 0 then IntKind.u8.wrap (IntKind.i64.wrap (230 + nK 26 (drawC M (some ⟨b, off, none⟩) n (x, i) 2).1)) else bif Nat.beq j 31 then IntKind.u8.wrap (IntKind.i64.wrap (127 + IntKind.i64.wrap (128 * nK 2 (drawC M (some ⟨b, off, none⟩) n (x, i) 1).1))) else 255)⟩, [⟨[.slice (some ⟨b, off, none⟩) n c, .int .i64 (drawC M (some ⟨b, off, none⟩) n (x, i) 3).2, .int .u64 (drawC M (some ⟨b, off, none⟩) n (x, i) 3).1], g, e, false⟩], []), dPin M (some ⟨b, off, none⟩) n (drawC M (some ⟨b, off, none⟩) n (x, i) 0) 2 ++ (dPin M (some ⟨b, off, none⟩) n (drawC M (some ⟨b, off, none⟩) n (x, i) 1) 26 ++ dPin M (some ⟨b, off, none⟩) n (drawC M (some ⟨b, off, none⟩) n (x, i) 2) 4) ++ [(nK 4 (drawC M (some ⟨b, off, none⟩) n (x, i) 3).1 == 0, false)]) := by kernel_rfl
set_option maxRecDepth 100000 in
theorem dEsb (M : Mem) (b off n c : Nat) (i x : Int) (g : Bool) (e : Nat) : evFC Try.prog M [nSumG M 19, oneSumG M 27] [24] 2000 Try.f28 [.pointer (some ⟨0, 0, some 3⟩)] [⟨[.slice (some ⟨b, off, none⟩) n c, .int .i64 i, .int .u64 x], g, e, false⟩] [true]
   = some ((.agg ⟨cellsI .u8 32 (fun j => bif Nat.beq j 0 then IntKind.u8.wrap (nK 4 (drawC M (some ⟨b, off, none⟩) n (x, i) 4).1) else 0)⟩, [⟨[.slice (some ⟨b, off, none⟩) n c, .int .i64 (drawC M (some ⟨b, off, none⟩) n (x, i) 4).2, .int .u64 (drawC M (some ⟨b, off, none⟩) n (x, i) 4).1], g, e, false⟩], []), dPin M (some ⟨b, off, none⟩) n (drawC M (some ⟨b, off, none⟩) n (x, i) 0) 2 ++ (dPin M (some ⟨b, off, none⟩) n (drawC M (some ⟨b, off, none⟩) n (x, i) 1) 26 ++ dPin M (some ⟨b, off, none⟩) n (drawC M (some ⟨b, off, none⟩) n (x, i) 2) 4) ++ ((nK 4 (drawC M (some ⟨b, off, none⟩) n (x, i) 3).1 == 0, true) :: dPin M (some ⟨b, off, none⟩) n (drawC M (some ⟨b, off, none⟩) n (x, i) 3) 4)) := by kernel_rfl
set_option maxRecDepth 100000 in
theorem dEza (M : Mem) (i x : Int) (g : Bool) (e : Nat) : evFC Try.prog M [nSumG M 19, oneSumG M 27] [24] 2000 Try.f28 [.pointer (some ⟨0, 0, some 3⟩)] [⟨[.slice none 0 0, .int .i64 i, .int .u64 x], g, e, false⟩] [false]
   = some ((.agg ⟨cellsI .u8 32 (fun j => bif Nat.beq j 0 then IntKind.u8.wrap (IntKind.i64.wrap (230 + nK 26 (drawC M none 0 (x, i) 2).1)) else bif Nat.beq j 31 then IntKind.u8.wrap (IntKind.i64.wrap (127 + IntKind.i64.wrap (128 * nK 2 (drawC M none 0 (x, i) 1).1))) else 255)⟩, [⟨[.slice none 0 0, .int .i64 (drawC M none 0 (x, i) 3).2, .int .u64 (drawC M none 0 (x, i) 3).1], g, e, false⟩], []), dPin M none 0 (drawC M none 0 (x, i) 0) 2 ++ (dPin M none 0 (drawC M none 0 (x, i) 1) 26 ++ dPin M none 0 (drawC M none 0 (x, i) 2) 4) ++ [(nK 4 (drawC M none 0 (x, i) 3).1 == 0, false)]) := by kernel_rfl
set_option maxRecDepth 100000 in
theorem dEzb (M : Mem) (i x : Int) (g : Bool) (e : Nat) : evFC Try.prog M [nSumG M 19, oneSumG M 27] [24] 2000 Try.f28 [.pointer (some ⟨0, 0, some 3⟩)] [⟨[.slice none 0 0, .int .i64 i, .int .u64 x], g, e, false⟩] [true]
   = some ((.agg ⟨cellsI .u8 32 (fun j => bif Nat.beq j 0 then IntKind.u8.wrap (nK 4 (drawC M none 0 (x, i) 4).1) else 0)⟩, [⟨[.slice none 0 0, .int .i64 (drawC M none 0 (x, i) 4).2, .int .u64 (drawC M none 0 (x, i) 4).1], g, e, false⟩], []), dPin M none 0 (drawC M none 0 (x, i) 0) 2 ++ (dPin M none 0 (drawC M none 0 (x, i) 1) 26 ++ dPin M none 0 (drawC M none 0 (x, i) 2) 4) ++ ((nK 4 (drawC M none 0 (x, i) 3).1 == 0, true) :: dPin M none 0 (drawC M none 0 (x, i) 3) 4)) := by kernel_rfl

theorem bif_has {b : Bool} {v w : Int} (hv : IntKind.u8.has v) (hw : IntKind.u8.has w) : IntKind.u8.has (bif b then v else w) := by cases b; exact hw; exact hv
theorem u8_255 : IntKind.u8.has 255 := ⟨by decide, by decide⟩
theorem u8_0 : IntKind.u8.has 0 := ⟨by decide, by decide⟩
theorem dEg_x (M : Mem) : ArrX Try.prog M 28 32 := fun u n c g e p h => by
  obtain ⟨x, i⟩ := p
  obtain ⟨h1, h2, h3⟩ := srcOk_iff.1 h
  have hl : ∀ s ∈ [nSumG M 19, oneSumG M 27], s.SoundC Try.prog M := consC (dN M) (consC (dO M) nilC)
  cases u with
  | some q =>
    obtain ⟨b, off⟩ := q
    have hu : nOk M (some ⟨b, off, none⟩) n = true := h1
    have hD := drawC_ok (M := M) (u := (some ⟨b, off, none⟩)) (n := n) h2 (p := (x, i)) h3
    have p1 := fun j k (hk : k ≤ 4611686018427387904) => dPin_held (k := k) hu (hD j) hk
    by_cases q1 : (nK 4 (drawC M (some ⟨b, off, none⟩) n (x, i) 3).1 == 0) = true
    · exact ⟨(_, (_, _)), fun j => bif_has (u8_wrap _) u8_0, hD 4, acalls_of_evFC hl mix Try.func28 (dEsb M b off n c i x g e) (held_two (held_two (p1 0 2 (by decide)) (held_two (p1 1 26 (by decide)) (p1 2 4 (by decide)))) (held_cons q1 (p1 3 4 (by decide))))⟩
    · exact ⟨(_, (_, _)), fun j => bif_has (u8_wrap _) (bif_has (u8_wrap _) u8_255), hD 3, acalls_of_evFC hl mix Try.func28 (dEsa M b off n c i x g e) (held_two (held_two (p1 0 2 (by decide)) (held_two (p1 1 26 (by decide)) (p1 2 4 (by decide)))) (held_one (by simpa using q1)))⟩
  | none =>
    have hu : nOk M none 0 = true := h1
    have hD := drawC_ok (M := M) (u := none) (n := 0) (by decide) (p := (x, i)) h3
    have p1 := fun j k (hk : k ≤ 4611686018427387904) => dPin_held (k := k) hu (hD j) hk
    by_cases q1 : (nK 4 (drawC M none 0 (x, i) 3).1 == 0) = true
    · exact ⟨(_, (_, _)), fun j => bif_has (u8_wrap _) u8_0, hD 4, acalls_of_evFC hl mix Try.func28 (dEzb M i x g e) (held_two (held_two (p1 0 2 (by decide)) (held_two (p1 1 26 (by decide)) (p1 2 4 (by decide)))) (held_cons q1 (p1 3 4 (by decide))))⟩
    · exact ⟨(_, (_, _)), fun j => bif_has (u8_wrap _) (bif_has (u8_wrap _) u8_255), hD 3, acalls_of_evFC hl mix Try.func28 (dEza M i x g e) (held_two (held_two (p1 0 2 (by decide)) (held_two (p1 1 26 (by decide)) (p1 2 4 (by decide)))) (held_one (by simpa using q1)))⟩
theorem dEg (M : Mem) : (arrSumG Try.prog M 28 32).SoundC Try.prog M := arrSumG_sound Try.func28 (by kernel_rfl) (by kernel_rfl) (dEg_x M)

/-! ### L3Point -/
set_option maxRecDepth 100000 in
theorem dPsa (M : Mem) (b off n c : Nat) (i x : Int) (g : Bool) (e : Nat) : evFC Try.prog M [oneSumG M 27, arrSumG Try.prog M 28 32, arrSumG Try.prog M 18 32] [4] 300 Try.f13 [.pointer (some ⟨0, 0, some 3⟩)] [⟨[.slice (some ⟨b, off, none⟩) n c, .int .i64 i, .int .u64 x], g, e, false⟩] [true]
   = some ((.agg ⟨cellsI .u8 32 (arrR Try.prog M 28 32 (some (b, off)) n c g e (drawC M (some ⟨b, off, none⟩) n (x, i) 1)).1⟩, [⟨[.slice (some ⟨b, off, none⟩) n c, .int .i64 (arrR Try.prog M 28 32 (some (b, off)) n c g e (drawC M (some ⟨b, off, none⟩) n (x, i) 1)).2.2, .int .u64 (arrR Try.prog M 28 32 (some (b, off)) n c g e (drawC M (some ⟨b, off, none⟩) n (x, i) 1)).2.1], g, e, false⟩], []), dPin M (some ⟨b, off, none⟩) n (x, i) 4 ++ [(nK 4 (drawC M (some ⟨b, off, none⟩) n (x, i) 1).1 == 0, true), (srcOk M (some ⟨b, off, none⟩) n (drawC M (some ⟨b, off, none⟩) n (x, i) 1).2, true)]) := by kernel_rfl
set_option maxRecDepth 100000 in
theorem dPsb (M : Mem) (b off n c : Nat) (i x : Int) (g : Bool) (e : Nat) : evFC Try.prog M [oneSumG M 27, arrSumG Try.prog M 28 32, arrSumG Try.prog M 18 32] [4] 300 Try.f13 [.pointer (some ⟨0, 0, some 3⟩)] [⟨[.slice (some ⟨b, off, none⟩) n c, .int .i64 i, .int .u64 x], g, e, false⟩] [false]
   = some ((.agg ⟨cellsI .u8 32 (arrR Try.prog M 18 32 (some (b, off)) n c g e (drawC M (some ⟨b, off, none⟩) n (x, i) 1)).1⟩, [⟨[.slice (some ⟨b, off, none⟩) n c, .int .i64 (arrR Try.prog M 18 32 (some (b, off)) n c g e (drawC M (some ⟨b, off, none⟩) n (x, i) 1)).2.2, .int .u64 (arrR Try.prog M 18 32 (some (b, off)) n c g e (drawC M (some ⟨b, off, none⟩) n (x, i) 1)).2.1], g, e, false⟩], []), dPin M (some ⟨b, off, none⟩) n (x, i) 4 ++ [(nK 4 (drawC M (some ⟨b, off, none⟩) n (x, i) 1).1 == 0, false), (srcOk M (some ⟨b, off, none⟩) n (drawC M (some ⟨b, off, none⟩) n (x, i) 1).2, true)]) := by kernel_rfl
set_option maxRecDepth 100000 in
theorem dPza (M : Mem) (i x : Int) (g : Bool) (e : Nat) : evFC Try.prog M [oneSumG M 27, arrSumG Try.prog M 28 32, arrSumG Try.prog M 18 32] [4] 300 Try.f13 [.pointer (some ⟨0, 0, some 3⟩)] [⟨[.slice none 0 0, .int .i64 i, .int .u64 x], g, e, false⟩] [true]
   = some ((.agg ⟨cellsI .u8 32 (arrR Try.prog M 28 32 none 0 0 g e (drawC M none 0 (x, i) 1)).1⟩, [⟨[.slice none 0 0, .int .i64 (arrR Try.prog M 28 32 none 0 0 g e (drawC M none 0 (x, i) 1)).2.2, .int .u64 (arrR Try.prog M 28 32 none 0 0 g e (drawC M none 0 (x, i) 1)).2.1], g, e, false⟩], []), dPin M none 0 (x, i) 4 ++ [(nK 4 (drawC M none 0 (x, i) 1).1 == 0, true), (srcOk M none 0 (drawC M none 0 (x, i) 1).2, true)]) := by kernel_rfl
set_option maxRecDepth 100000 in
theorem dPzb (M : Mem) (i x : Int) (g : Bool) (e : Nat) : evFC Try.prog M [oneSumG M 27, arrSumG Try.prog M 28 32, arrSumG Try.prog M 18 32] [4] 300 Try.f13 [.pointer (some ⟨0, 0, some 3⟩)] [⟨[.slice none 0 0, .int .i64 i, .int .u64 x], g, e, false⟩] [false]
   = some ((.agg ⟨cellsI .u8 32 (arrR Try.prog M 18 32 none 0 0 g e (drawC M none 0 (x, i) 1)).1⟩, [⟨[.slice none 0 0, .int .i64 (arrR Try.prog M 18 32 none 0 0 g e (drawC M none 0 (x, i) 1)).2.2, .int .u64 (arrR Try.prog M 18 32 none 0 0 g e (drawC M none 0 (x, i) 1)).2.1], g, e, false⟩], []), dPin M none 0 (x, i) 4 ++ [(nK 4 (drawC M none 0 (x, i) 1).1 == 0, false), (srcOk M none 0 (drawC M none 0 (x, i) 1).2, true)]) := by kernel_rfl

theorem dP_x (M : Mem) : ArrX Try.prog M 13 32 := fun u n c g e p h => by
  obtain ⟨x, i⟩ := p
  obtain ⟨h1, h2, h3⟩ := srcOk_iff.1 h
  have hl : ∀ s ∈ [oneSumG M 27, arrSumG Try.prog M 28 32, arrSumG Try.prog M 18 32], s.SoundC Try.prog M := consC (dO M) (consC (dEg M) (consC (dK M) nilC))
  cases u with
  | some q =>
    obtain ⟨b, off⟩ := q
    have hu : nOk M (some ⟨b, off, none⟩) n = true := h1
    have hD := drawC_ok (M := M) (u := (some ⟨b, off, none⟩)) (n := n) h2 (p := (x, i)) h3
    have hs : srcOk M (some ⟨b, off, none⟩) n (drawC M (some ⟨b, off, none⟩) n (x, i) 1).2 = true := srcOk_iff.2 ⟨hu, h2, hD 1⟩
    by_cases q1 : (nK 4 (drawC M (some ⟨b, off, none⟩) n (x, i) 1).1 == 0) = true
    · obtain ⟨r1, r2, _⟩ := arrR_ok (dEg_x M) (u := (some (b, off))) (n := n) (c := c) (g := g) (e := e) (p := drawC M (some ⟨b, off, none⟩) n (x, i) 1) hs
      exact ⟨(_, (_, _)), r1, r2, acalls_of_evFC hl mix Try.func13 (dPsa M b off n c i x g e) (held_two (dPin_held hu h3 (by decide)) (held_cons q1 (held_one hs)))⟩
    · obtain ⟨r1, r2, _⟩ := arrR_ok (dK_x M) (u := (some (b, off))) (n := n) (c := c) (g := g) (e := e) (p := drawC M (some ⟨b, off, none⟩) n (x, i) 1) hs
      exact ⟨(_, (_, _)), r1, r2, acalls_of_evFC hl mix Try.func13 (dPsb M b off n c i x g e) (held_two (dPin_held hu h3 (by decide)) (held_cons (by simpa using q1) (held_one hs)))⟩
  | none =>
    have hu : nOk M none 0 = true := h1
    have hD := drawC_ok (M := M) (u := none) (n := 0) (by decide) (p := (x, i)) h3
    have hs : srcOk M none 0 (drawC M none 0 (x, i) 1).2 = true := srcOk_iff.2 ⟨hu, by decide, hD 1⟩
    by_cases q1 : (nK 4 (drawC M none 0 (x, i) 1).1 == 0) = true
    · obtain ⟨r1, r2, _⟩ := arrR_ok (dEg_x M) (u := none) (n := 0) (c := 0) (g := g) (e := e) (p := drawC M none 0 (x, i) 1) hs
      exact ⟨(_, (_, _)), r1, r2, acalls_of_evFC hl mix Try.func13 (dPza M i x g e) (held_two (dPin_held hu h3 (by decide)) (held_cons q1 (held_one hs)))⟩
    · obtain ⟨r1, r2, _⟩ := arrR_ok (dK_x M) (u := none) (n := 0) (c := 0) (g := g) (e := e) (p := drawC M none 0 (x, i) 1) hs
      exact ⟨(_, (_, _)), r1, r2, acalls_of_evFC hl mix Try.func13 (dPzb M i x g e) (held_two (dPin_held hu h3 (by decide)) (held_cons (by simpa using q1) (held_one hs)))⟩
theorem dP (M : Mem) : (arrSumG Try.prog M 13 32).SoundC Try.prog M := arrSumG_sound Try.func13 (by kernel_rfl) (by kernel_rfl) (dP_x M)

/-! ### The law -/
noncomputable def L4 (M : Mem) : List Sum := [I12 M, arrSumG Try.prog M 13 32, fieldSum 10, fieldSum 8]
theorem L4_sound (M : Mem) : ∀ s ∈ L4 M, s.SoundC Try.prog M := consC (I12_s M).c (consC (dP M) (consC (field10 M) (consC (field8 M) nilC)))

/-- A product's bytes. -/
def fmF (a b : Nat → Int) : Nat → Int := fun i => val 256 (wd (cellsI .u8 32 a)) 32 * val 256 (wd (cellsI .u8 32 b)) 32 % pF / 256 ^ i % 256
def smallF (c d : Int) (i : Nat) : Int := bif Nat.beq i 0 then c else bif Nat.beq i 1 then d else 0
def rP (a b : Nat → Int) : Bool × Bool := (rngB (cellsI .u8 32 a) && rngB (cellsI .u8 32 b), true)
section
variable (M : Mem) (u : Option (Nat × Nat)) (n c : Nat)
noncomputable def fdA : (Nat → Int) × (Int × Int) := arrR Try.prog M 13 32 u n c false 1 (seedC (lenS u n))
noncomputable def fdB : (Nat → Int) × (Int × Int) := arrR Try.prog M 13 32 u n c false 1 (fdA M u n c).2
noncomputable def fdC : (Nat → Int) × (Int × Int) := arrR Try.prog M 13 32 u n c false 1 (fdB M u n c).2
end
def pinsF (a b c : Nat → Int) : Pins :=
  [rP a b, rP b c, rP b a, (!allEq (fmF a b) (fmF b a) 0 32, false), rP (fmF a b) c, rP a (fmF b c), (!allEq (fmF (fmF a b) c) (fmF a (fmF b c)) 0 32, false), rP a b, (!allEq (fmF a b) (fmF a b) 0 32, false),
   rP (fmF a b) (smallF 1 0), (!allEq (fmF (fmF a b) (smallF 1 0)) (fmF a b) 0 32, false), rP a (smallF 1 0), rP (fmF a (smallF 1 0)) b, (!allEq (fmF (fmF a (smallF 1 0)) b) (fmF a b) 0 32, false),
   rP (smallF 38 0) a, rP (smallF 19 0) (fmF (smallF 38 0) a), rP (smallF 210 2) a, (allEq (fmF (smallF 19 0) (fmF (smallF 38 0) a)) (fmF (smallF 210 2) a) 0 32, true)]
noncomputable def pins4 (M : Mem) (u : Option (Nat × Nat)) (n c : Nat) : Pins :=
  [(decide ((lenS u n : Int) > 1048576), false), (srcOk M (srcA u) (lenS u n) 0, true), (srcOk M (srcA u) (lenS u n) (fdA M u n c).2.2, true), (srcOk M (srcA u) (lenS u n) (fdB M u n c).2.2, true)] ++ pinsF (fdA M u n c).1 (fdB M u n c).1 (fdC M u n c).1
def sym4 : List Nat := [12, 32, 40, 47, 53, 61, 71]

set_option maxRecDepth 100000 in
theorem r4s (M : Mem) (b off n c : Nat) : evFC Try.prog M (L4 M) sym4 1000 Try.f4 [.slice (some ⟨b, off, none⟩) n c] [] [false, false, false, false, false, false, true]
   = some ((.bool true, [], []), pins4 M (some (b, off)) n c) := parts_eq (by kernel_rfl) (by kernel_rfl) (by kernel_rfl) (by kernel_rfl) (by kernel_rfl)
set_option maxRecDepth 100000 in
theorem r4z (M : Mem) : evFC Try.prog M (L4 M) sym4 1000 Try.f4 [.slice none 0 0] [] [false, false, false, false, false, false, true]
   = some ((.bool true, [], []), pins4 M none 0 0) := parts_eq (by kernel_rfl) (by kernel_rfl) (by kernel_rfl) (by kernel_rfl) (by kernel_rfl)
set_option maxRecDepth 100000 in
theorem r4l (M : Mem) (b off n c : Nat) : evFC Try.prog M (L4 M) sym4 1000 Try.f4 [.slice (some ⟨b, off, none⟩) n c] [] [true]
   = some ((.bool true, [], []), [(decide ((n : Int) > 1048576), true)]) := by kernel_rfl

theorem fmF_range (a b : Nat → Int) (i : Nat) : IntKind.u8.has (fmF a b i) := by
  show 0 ≤ _ ∧ _ ≤ (255 : Int)
  unfold fmF
  omega
theorem fmF_num (a b : Nat → Int) : val 256 (wd (cellsI .u8 32 (fmF a b))) 32 = val 256 (wd (cellsI .u8 32 a)) 32 * val 256 (wd (cellsI .u8 32 b)) 32 % pF := by
  have e : cellsI .u8 32 (fmF a b) = cellsI .u8 32 fun i => val 256 (wd (cellsI .u8 32 a)) 32 * val 256 (wd (cellsI .u8 32 b)) 32 % pF / 256 ^ i % 256 := rfl
  obtain ⟨h0, h1⟩ := mod_range (val 256 (wd (cellsI .u8 32 a)) 32 * val 256 (wd (cellsI .u8 32 b)) 32)
  have hp : pF = 57896044618658097711785492504343953926634992332820282019728792003956564819949 := rfl
  have hB : (256 : Int) ^ 32 = 115792089237316195423570985008687907853269984665640564039457584007913129639936 := by decide
  rw [e, wd_val, val_digits h0, hB]
  omega
theorem fmF_eq {a b c d : Nat → Int} (h : val 256 (wd (cellsI .u8 32 a)) 32 * val 256 (wd (cellsI .u8 32 b)) 32 % pF = val 256 (wd (cellsI .u8 32 c)) 32 * val 256 (wd (cellsI .u8 32 d)) 32 % pF) : fmF a b = fmF c d := by
  funext i
  unfold fmF
  rw [h]
theorem small_num (c : Int) (d : Int) : val 256 (wd (cellsI .u8 32 (smallF c d))) 32 = c + d * 256 := by
  rw [wd_val]
  simp only [val, smallF]
  simp [Nat.beq]
theorem small_has {c d : Int} (hc : IntKind.u8.has c) (hd : IntKind.u8.has d) (i : Nat) : IntKind.u8.has (smallF c d i) := bif_has hc (bif_has hd u8_0)

theorem pinsF_held {a b c : Nat → Int} (ha : ∀ i, IntKind.u8.has (a i)) (hb : ∀ i, IntKind.u8.has (b i)) (hc : ∀ i, IntKind.u8.has (c i)) : Held (pinsF a b c) := by
  have r : ∀ {a b : Nat → Int}, (∀ i, IntKind.u8.has (a i)) → (∀ i, IntKind.u8.has (b i)) → (rP a b).1 = (rP a b).2 := fun {a b} ha hb => by
    show (rngB (cellsI .u8 32 a) && rngB (cellsI .u8 32 b)) = true
    rw [rngB_cellsI ha, rngB_cellsI hb]; rfl
  have same : ∀ {x y : Nat → Int}, x = y → allEq x y 0 32 = true := fun {x y} h => by rw [h]; exact allEq_iff.2 fun j _ _ => rfl
  have no : ∀ {x y : Nat → Int}, x = y → (!allEq x y 0 32) = false := fun {x y} h => by rw [same h]; rfl
  have h1 : ∀ i, IntKind.u8.has (smallF 1 0 i) := small_has ⟨by decide, by decide⟩ u8_0
  have h38 : ∀ i, IntKind.u8.has (smallF 38 0 i) := small_has ⟨by decide, by decide⟩ u8_0
  have h19 : ∀ i, IntKind.u8.has (smallF 19 0 i) := small_has ⟨by decide, by decide⟩ u8_0
  have h210 : ∀ i, IntKind.u8.has (smallF 210 2 i) := small_has ⟨by decide, by decide⟩ ⟨by decide, by decide⟩
  have hf := fmF_range
  have hr : ∀ x : Int, x % pF % pF = x % pF := fun x => mod_mod x
  unfold pinsF
  refine held_cons (r ha hb) (held_cons (r hb hc) (held_cons (r hb ha) (held_cons (no ?_) (held_cons (r (hf _ _) hc) (held_cons (r ha (hf _ _)) (held_cons (no ?_) (held_cons (r ha hb) (held_cons (no rfl)
    (held_cons (r (hf _ _) h1) (held_cons (no ?_) (held_cons (r ha h1) (held_cons (r (hf _ _) hb) (held_cons (no ?_) (held_cons (r h38 ha) (held_cons (r h19 (hf _ _)) (held_cons (r h210 ha) (held_one (same ?_))))))))))))))))))
  · exact fmF_eq (by rw [Int.mul_comm])
  · refine fmF_eq ?_
    rw [fmF_num, fmF_num, Int.mul_emod, hr, ← Int.mul_emod, Int.mul_emod (val 256 (wd (cellsI .u8 32 a)) 32) (_ % pF), hr, ← Int.mul_emod, Int.mul_assoc]
  · refine fmF_eq ?_
    rw [fmF_num, small_num, Int.zero_mul, Int.add_zero, Int.mul_one, hr]
  · refine fmF_eq ?_
    rw [fmF_num, small_num, Int.zero_mul, Int.add_zero, Int.mul_one, Int.mul_emod, hr, ← Int.mul_emod]
  · refine fmF_eq ?_
    rw [fmF_num, small_num, small_num, small_num, Int.mul_emod, hr, ← Int.mul_emod, ← Int.mul_assoc]
    rfl

theorem pins4_held (M : Mem) (u : Option (Nat × Nat)) (n c : Nat) (h : srcOk M (srcA u) (lenS u n) 0 = true) : Held (pins4 M u n c) := by
  obtain ⟨h1, h2, _⟩ := srcOk_iff.1 h
  obtain ⟨hA, iA, _⟩ := arrR_ok (dP_x M) (u := u) (n := n) (c := c) (g := false) (e := 1) (p := seedC (lenS u n)) h
  have hsB : srcOk M (srcA u) (lenS u n) (fdA M u n c).2.2 = true := srcOk_iff.2 ⟨h1, h2, iA⟩
  obtain ⟨hB, iB, _⟩ := arrR_ok (dP_x M) (u := u) (n := n) (c := c) (g := false) (e := 1) (p := (fdA M u n c).2) hsB
  have hsC : srcOk M (srcA u) (lenS u n) (fdB M u n c).2.2 = true := srcOk_iff.2 ⟨h1, h2, iB⟩
  obtain ⟨hC, _, _⟩ := arrR_ok (dP_x M) (u := u) (n := n) (c := c) (g := false) (e := 1) (p := (fdB M u n c).2) hsC
  unfold pins4
  exact held_two (held_cons (by rw [decide_eq_false_iff_not]; omega) (held_cons h (held_cons hsB (held_one hsC)))) (pinsF_held hA hB hC)

theorem run4 (W : World) (base : Nat) (v0 : Value) (h0 : Value.okWide Try.prog W .any base 26 v0) {H : Type} {enc : TypeId × Value → H} {d : DataW H} {p : List MemPlace} (hd : DataW.Trod enc Try.prog W 0 (fun _ => true) true 26 v0 d p) :
    groundL [v0] = true ∧ ∃ ns, ACalls Try.prog (memOf W) 4 [v0] [] (.bool true) [] ns := by
  rcases slice_arg (e := 5) Try.underlying26 Try.underlying5 (by kernel_rfl) h0 hd with rfl | ⟨b, off, n, c, x, rfl, hc, _, hx⟩
  · exact ⟨rfl, [], acalls_of_evFC (L4_sound _) mix Try.func4 (r4z _) (pins4_held _ none 0 0 (srcOk_iff.2 ⟨rfl, by decide, by decide⟩))⟩
  · refine ⟨rfl, [], ?_⟩
    by_cases hn : n ≤ 1048576
    · exact acalls_of_evFC (L4_sound _) mix Try.func4 (r4s _ b off n c) (pins4_held _ (some (b, off)) n c (srcOk_iff.2 ⟨nOk_ro hx, hn, by decide⟩))
    · exact acalls_of_evFC (L4_sound _) mix Try.func4 (r4l _ b off n c) (held_one (by rw [decide_eq_true_eq]; omega))

set_option maxRecDepth 100000 in
theorem FnField_lifted (os : Os) (started : os.Started) (H : Type) (enc : TypeId × Value → H) :
    ReturnsInHanded {} Try.checked os 4 .any (Rows.fnFieldSpec.pre6 enc Try.prog Try.f4 Rows.fnFieldRow.domain false) (Rows.fnFieldSpec.post enc Try.prog Try.f4 false true false false) :=
  lifted own (by kernel_rfl) Try.func4 (tb := 4) (by kernel_rfl) Try.underlying4 (by kernel_rfl) rfl (fun H ds h => by
      obtain ⟨_, rfl⟩ := len1 (l := ds) (h.trans (by kernel_rfl)); rfl)
    (fun W base H enc args ds ps h hv => by
      rw [show Try.f4.params = _ from Try.params4] at h hv
      obtain ⟨v0, d0, rfl, rfl, h0⟩ := Go.ChangeShapes.trodAll_one h
      exact run4 W base v0 (hv 0 _ v0 rfl rfl) h0) os started enc
    (ChangeSpec.witness6 (enc := enc) (C := Try.checked) false ⟨#[], #[(.slice none 0 0)], []⟩ 64 (by kernel_rfl) (by kernel_rfl) (by kernel_rfl) (by kernel_rfl))

set_option maxRecDepth 100000 in
/-- The statement. -/
theorem FnField_holds : Rows.FnFieldSaid :=
  OpenClaim.holds_of_wide 4 Try.f4 rfl rfl rfl rfl rfl rfl rfl ⟨rfl, rfl, rfl, rfl, rfl⟩ rfl rfl rfl rfl rfl (by kernel_rfl) Try.func4 (by kernel_rfl)
    (of_decide_eq_true (by kernel_rfl)) (by unfold Func.isWrapper; first | (rw [if_pos (by decide +kernel)]; kernel_rfl) | (rw [if_neg (by decide +kernel)]; exact ⟨rfl, rfl⟩))
    (fun os started H enc _ => FnField_lifted os started H enc)


end Go.Proofs.Ytjdckgnpocnifaa
