/- What the law FnStamps comes to on each of its roads, under conditions that are listed.
   Conditions: none. -/
import Derived.Test.YthflpgckojnbmaaDraw
import Derived.Test.YthflpgckojnbmaaAdmitFn
import Derived.Test.YthflpgckojnbmaaOrder
open Go.Ab
set_option linter.unusedVariables false
set_option linter.unusedSimpArgs false
namespace Go.Proofs.Ythflpgckojnbmaa

def lessL (lx ly : List Int) : Bool := Op.bytesLess (Lib.bytesOf lx) (Lib.bytesOf ly)

def admSum2 : Sum :=
  { f := 29, ro := true
    S := fun args os => match args, os with
      | [.agg ⟨.bool b :: r⟩, .agg ⟨ys⟩, .int .i64 now], [] => match byteInts (r.take 12), r.drop 12, byteInts ys with
        | some lx, [.int .i64 t], some ly => if Nat.beq lx.length 12 && Nat.beq ly.length 12 then match b with
            | false => some (peerV (fun i => ly.getD i 0) now 14, [], [])
            | true => some (peerV (admX true (lessL lx ly) t now (fun i => lx.getD i 0) (fun i => ly.getD i 0)) (admT true (lessL lx ly) t now) (admC true (lessL lx ly) t now), [], [])
          else none
        | _, _, _ => none
      | _, _ => none }

theorem admSum2_sound (M : Mem) : admSum2.SoundC Try.prog M := by
  refine sumC_sound Try.func29 (by kernel_rfl) (by kernel_rfl) fun args os v os' ns hs hp => ?_
  simp only [admSum2] at hs ⊢
  split at hs
  · rename_i b r ys now
    split at hs
    · rename_i lx t ly h1 h2 h3
      split at hs
      · rename_i hc
        simp only [Bool.and_eq_true] at hc
        have l1 := Nat.eq_of_beq_eq_true hc.1
        have l2 := Nat.eq_of_beq_eq_true hc.2
        have e1 := byteInts_eq h1
        have e3 := byteInts_eq h3
        have er : r = lx.map (.int .u8) ++ [.int .i64 t] := by rw [← List.take_append_drop 12 r, e1, h2]
        subst er e3
        have key := admit29 M b (fun i => lx.getD i 0) (fun i => ly.getD i 0) t now
        have hl : lessXY (fun i => lx.getD i 0) (fun i => ly.getD i 0) = lessL lx ly := by
          unfold lessXY lessL
          have r1 := range_getD lx
          have r2 := range_getD ly
          rw [l1] at r1
          rw [l2] at r2
          rw [r1, r2]
        rw [hl] at key
        unfold args8 at key
        rw [map_cellsI, map_cellsI, l1, l2]
        cases b with
        | true => cases hs; exact ⟨key, fun _ => rfl⟩
        | false =>
          cases hs
          have h4 : admB false (lessL lx ly) t now = true := by simp [admB]
          have h5 : admX false (lessL lx ly) t now (fun i => lx.getD i 0) (fun i => ly.getD i 0) = fun i => ly.getD i 0 := funext fun i => by simp only [admX, h4, if_true]
          simp only [h5, admT, admC, h4, if_true] at key
          exact ⟨key, fun _ => rfl⟩
      · cases hs
    · cases hs
  · cases hs

/-- Lists equal, one number behind the other. -/
def andL : List Int → List Int → Bool
  | x :: xs, y :: ys => (x == y) && andL xs ys
  | _, _ => true
theorem andL_self : ∀ l : List Int, andL l l = true := by
  intro l
  induction l with
  | nil => rfl
  | cons x l ih => simp [andL, ih]

/-- The draws: the source's number and place behind each. -/
def drawS (M : Mem) (b off n : Nat) (x0 : Int) : Nat → Int × Int
  | 0 => (x0, 0)
  | k + 1 => (nX (drawS M b off n x0 k).1 (nC M (some ⟨b, off, none⟩) n (drawS M b off n x0 k).2), nI n (drawS M b off n x0 k).2)
def drawN (x0 : Int) : Nat → Int × Int
  | 0 => (x0, 0)
  | k + 1 => (nX (drawN x0 k).1 0, (drawN x0 k).2)
def seed (n : Nat) : Int := IntKind.wrap .u64 (88172645463325252 + IntKind.wrap .u64 n)

def stA (D : Nat → Int × Int) : Int := IntKind.wrap .i64 (nR (D 1).1 2000000000 * IntKind.wrap .i64 (1 + nR (D 2).1 1000000000))
def stD (D : Nat → Int × Int) : Bool → Int
  | true => IntKind.wrap .i64 (IntKind.wrap .i64 (50000000 + nR (D 5).1 3) - 1)
  | false => IntKind.wrap .i64 (1 + nR (D 3).1 100000000)
def stS (D : Nat → Int × Int) (q : Bool) : Int := IntKind.wrap .i64 (stA D + stD D q)
def tl (a : Int) : List Int := (List.range 12).map (taiRaw a)

def asksD (ok : Bool) (D : Nat → Int × Int) (k : Nat) : Pins := [(ok, true), (decide (0 ≤ (D k).2), true)]
/-- The stamp that Admit leaves. -/
def stX (a s : Int) (lx ly : List Int) : List Int := (List.range 12).map (admX true (lessL lx ly) a s (fun i => lx.getD i 0) (fun i => ly.getD i 0))

def pins9 (n : Nat) (ok : Bool) (D : Nat → Int × Int) (q lt : Bool) : Pins :=
  (decide ((n : Int) > 1048576), false) :: (asksD ok D 0 ++ (asksD ok D 1 ++ (asksD ok D 2 ++ (asksD ok D 3 ++ ((nR (D 4).1 4 == 0, q) :: ((match q with | true => asksD ok D 4 | false => []) ++
   ([(hasB .i64 (stA D), true), (hasB .i64 (stS D q), true), (lessL (tl (stA D)) (tl (stS D q)), true), (lessL (tl (stS D q)) (tl (stA D)), false), (lessL (tl (stA D)) (tl (stA D)), false), (hasB .i64 (stA D), true), (!andL (tl (stA D)) (tl (stA D)), false),
    (!andL (tl (stA D)) (tl (stA D)), false), (stA D != stA D, false),
    (admC true (lessL (tl (stA D)) (tl (stA D))) (stA D) (stS D q) != 12, false),
    (!(andL (stX (stA D) (stS D q) (tl (stA D)) (tl (stA D))) (tl (stA D)) && ((admT true (lessL (tl (stA D)) (tl (stA D))) (stA D) (stS D q) == stA D) && true)), false),
    (decide (stD D q < 50000000), lt)] ++
   (match lt with
    | true => [(admC true (lessL (tl (stA D)) (tl (stS D q))) (stA D) (stS D q) == 13, true), (andL (stX (stA D) (stS D q) (tl (stA D)) (tl (stS D q))) (tl (stA D)) && ((admT true (lessL (tl (stA D)) (tl (stS D q))) (stA D) (stS D q) == stA D) && true), true)]
    | false => [(admC true (lessL (tl (stA D)) (tl (stS D q))) (stA D) (stS D q) == 14, true), (andL (stX (stA D) (stS D q) (tl (stA D)) (tl (stS D q))) (tl (stS D q)), true), (admT true (lessL (tl (stA D)) (tl (stS D q))) (stA D) (stS D q) == stS D q, true)]))))))))

noncomputable def I31 (M : Mem) : Sum := inl Try.prog M (fns []) 1000 31 Try.f31
theorem I31_s (M : Mem) : (I31 M).Sound Try.prog M := inl_sound fns_nil mix Try.func31 (by kernel_rfl) (by kernel_rfl)
noncomputable def L9 (M : Mem) : List Sum := [I31 M, nSum32 M, taiSum 20, lessSum 14, taiSum 19, admSum2]
theorem L9_sound (M : Mem) : ∀ s ∈ L9 M, s.SoundC Try.prog M := consC (I31_s M).c (consC (nSum32_sound M) (consC (tai20 M) (consC (less14 M).c (consC (tai19 M) (consC (admSum2_sound M) nilC)))))
def sym9 : List Nat := [16, 30, 43, 48, 53, 59, 79, 85, 106, 110, 113, 115, 119, 122, 127, 135]
def orc9 (q lt : Bool) : List Bool := [false, q, true, false, false, false, false, false, false, false, lt] ++ (match lt with | true => [true, true] | false => [true, true, true])

set_option maxRecDepth 100000 in
theorem long9 (M : Mem) (b off n c : Nat) : evFC Try.prog M (L9 M) [16] 1000 Try.f9 [.slice (some ⟨b, off, none⟩) n c] [] [true] = some ((.bool true, [], []), [(decide ((n : Int) > 1048576), true)]) := by kernel_rfl

set_option maxRecDepth 100000 in
theorem s9_true_true (M : Mem) (b off n c : Nat) : evFC Try.prog M (L9 M) sym9 1000 Try.f9 [.slice (some ⟨b, off, none⟩) n c] [] (orc9 true true) = some ((.bool true, [], []), pins9 n (nOk M (some ⟨b, off, none⟩) n) (drawS M b off n (seed n)) true true) := by kernel_rfl
set_option maxRecDepth 100000 in
theorem n9_true_true (M : Mem) : evFC Try.prog M (L9 M) sym9 1000 Try.f9 [.slice none 0 0] [] (orc9 true true) = some ((.bool true, [], []), pins9 0 true (drawN (seed 0)) true true) := by kernel_rfl

set_option maxRecDepth 100000 in
theorem s9_true_false (M : Mem) (b off n c : Nat) : evFC Try.prog M (L9 M) sym9 1000 Try.f9 [.slice (some ⟨b, off, none⟩) n c] [] (orc9 true false) = some ((.bool true, [], []), pins9 n (nOk M (some ⟨b, off, none⟩) n) (drawS M b off n (seed n)) true false) := by kernel_rfl
set_option maxRecDepth 100000 in
theorem n9_true_false (M : Mem) : evFC Try.prog M (L9 M) sym9 1000 Try.f9 [.slice none 0 0] [] (orc9 true false) = some ((.bool true, [], []), pins9 0 true (drawN (seed 0)) true false) := by kernel_rfl

set_option maxRecDepth 100000 in
theorem s9_false_true (M : Mem) (b off n c : Nat) : evFC Try.prog M (L9 M) sym9 1000 Try.f9 [.slice (some ⟨b, off, none⟩) n c] [] (orc9 false true) = some ((.bool true, [], []), pins9 n (nOk M (some ⟨b, off, none⟩) n) (drawS M b off n (seed n)) false true) := by kernel_rfl
set_option maxRecDepth 100000 in
theorem n9_false_true (M : Mem) : evFC Try.prog M (L9 M) sym9 1000 Try.f9 [.slice none 0 0] [] (orc9 false true) = some ((.bool true, [], []), pins9 0 true (drawN (seed 0)) false true) := by kernel_rfl

set_option maxRecDepth 100000 in
theorem s9_false_false (M : Mem) (b off n c : Nat) : evFC Try.prog M (L9 M) sym9 1000 Try.f9 [.slice (some ⟨b, off, none⟩) n c] [] (orc9 false false) = some ((.bool true, [], []), pins9 n (nOk M (some ⟨b, off, none⟩) n) (drawS M b off n (seed n)) false false) := by kernel_rfl
set_option maxRecDepth 100000 in
theorem n9_false_false (M : Mem) : evFC Try.prog M (L9 M) sym9 1000 Try.f9 [.slice none 0 0] [] (orc9 false false) = some ((.bool true, [], []), pins9 0 true (drawN (seed 0)) false false) := by kernel_rfl

end Go.Proofs.Ythflpgckojnbmaa
