/- Facts on this program: what impl.Admit answers, in all cases at once.
   Conditions: none. -/
import Derived.Test.YthflpgckojnbmaaAbB
import Derived.Test.YthflpgckojnbmaaAdmit
open Go.Ab
set_option linter.unusedVariables false
set_option linter.unusedSimpArgs false
namespace Go.Proofs.Ythflpgckojnbmaa

def admB (b l : Bool) (t now : Int) : Bool := !b || (l && !(decide (t < 0) || (decide (t > now) || decide (IntKind.wrap .i64 (now - t) < 50000000))))
def admC (b l : Bool) (t now : Int) : Int := if admB b l t now = true then 14 else if l = true then 13 else 12
def admX (b l : Bool) (t now : Int) (x y : Nat → Int) (i : Nat) : Int := if admB b l t now = true then y i else x i
def admT (b l : Bool) (t now : Int) : Int := if admB b l t now = true then now else t

def peerV (x : Nat → Int) (t c : Int) : Value := .tuple ⟨[.agg ⟨.bool true :: (cellsI .u8 12 x ++ [.int .i64 t])⟩, .int .i64 c]⟩

theorem L29_sound (M : Mem) : ∀ s ∈ [lessSum 14], s.SoundC Try.prog M := consC (less14 M).c nilC
set_option maxRecDepth 100000 in
theorem q1 (M : Mem) (x y : Nat → Int) (t now : Int) : evFC Try.prog M [lessSum 14] [14, 23, 28, 35] 1000 Try.f29 (args8 false x t y now) [] [] = some ((peerV y now 14, [], []), []) := by kernel_rfl
set_option maxRecDepth 100000 in
theorem q2 (M : Mem) (x y : Nat → Int) (t now : Int) : evFC Try.prog M [lessSum 14] [14, 23, 28, 35] 1000 Try.f29 (args8 true x t y now) [] [false] = some ((peerV x t 12, [], []), pins8 x y t now [false]) := by kernel_rfl
set_option maxRecDepth 100000 in
theorem q3 (M : Mem) (x y : Nat → Int) (t now : Int) : evFC Try.prog M [lessSum 14] [14, 23, 28, 35] 1000 Try.f29 (args8 true x t y now) [] [true, true] = some ((peerV x t 13, [], []), pins8 x y t now [true, true]) := by kernel_rfl
set_option maxRecDepth 100000 in
theorem q4 (M : Mem) (x y : Nat → Int) (t now : Int) : evFC Try.prog M [lessSum 14] [14, 23, 28, 35] 1000 Try.f29 (args8 true x t y now) [] [true, false, true] = some ((peerV x t 13, [], []), pins8 x y t now [true, false, true]) := by kernel_rfl
set_option maxRecDepth 100000 in
theorem q5 (M : Mem) (x y : Nat → Int) (t now : Int) : evFC Try.prog M [lessSum 14] [14, 23, 28, 35] 1000 Try.f29 (args8 true x t y now) [] [true, false, false, true] = some ((peerV x t 13, [], []), pins8 x y t now [true, false, false, true]) := by kernel_rfl
set_option maxRecDepth 100000 in
theorem q6 (M : Mem) (x y : Nat → Int) (t now : Int) : evFC Try.prog M [lessSum 14] [14, 23, 28, 35] 1000 Try.f29 (args8 true x t y now) [] [true, false, false, false] = some ((peerV y now 14, [], []), pins8 x y t now [true, false, false, false]) := by kernel_rfl

theorem admit29 (M : Mem) (b : Bool) (x y : Nat → Int) (t now : Int) : ACalls Try.prog M 29 (args8 b x t y now) [] (peerV (admX b (lessXY x y) t now x y) (admT b (lessXY x y) t now) (admC b (lessXY x y) t now)) [] [] := by
  have yes : admB b (lessXY x y) t now = true → peerV (admX b (lessXY x y) t now x y) (admT b (lessXY x y) t now) (admC b (lessXY x y) t now) = peerV y now 14 := fun h => by
    have h1 : admX b (lessXY x y) t now x y = y := funext fun i => by simp only [admX, h, if_true]
    simp only [admT, admC, h, if_true, h1]
  have no : admB b (lessXY x y) t now = false → peerV (admX b (lessXY x y) t now x y) (admT b (lessXY x y) t now) (admC b (lessXY x y) t now) = peerV x t (if lessXY x y = true then 13 else 12) := fun h => by
    have h1 : admX b (lessXY x y) t now x y = x := funext fun i => by simp only [admX, h, Bool.false_eq_true, if_false]
    simp only [admT, admC, h, Bool.false_eq_true, if_false, h1]
  cases b with
  | false => rw [yes (by simp [admB])]; exact acalls_of_evFC (L29_sound M) mix Try.func29 (q1 M x y t now) held_nil
  | true =>
    cases h1 : lessXY x y with
    | false =>
      rw [h1] at no
      rw [no (by simp [admB])]
      exact acalls_of_evFC (L29_sound M) mix Try.func29 (q2 M x y t now) (held_one h1)
    | true =>
      rw [h1] at no yes
      cases h2 : decide (t < 0) with
      | true => rw [no (by simp only [admB, h2]; rfl)]; exact acalls_of_evFC (L29_sound M) mix Try.func29 (q3 M x y t now) (held_cons h1 (held_one h2))
      | false =>
        cases h3 : decide (t > now) with
        | true => rw [no (by simp only [admB, h2, h3]; rfl)]; exact acalls_of_evFC (L29_sound M) mix Try.func29 (q4 M x y t now) (held_cons h1 (held_cons h2 (held_one h3)))
        | false =>
          cases h4 : decide (IntKind.wrap .i64 (now - t) < 50000000) with
          | true => rw [no (by simp only [admB, h2, h3, h4]; rfl)]; exact acalls_of_evFC (L29_sound M) mix Try.func29 (q5 M x y t now) (held_cons h1 (held_cons h2 (held_cons h3 (held_one h4))))
          | false => rw [yes (by simp only [admB, h2, h3, h4]; rfl)]; exact acalls_of_evFC (L29_sound M) mix Try.func29 (q6 M x y t now) (held_cons h1 (held_cons h2 (held_cons h3 (held_one h4))))

def admSum : Sum :=
  { f := 29, ro := true
    S := fun args os => match args, os with
      | [.agg ⟨.bool b :: r⟩, .agg ⟨ys⟩, .int .i64 now], [] => match byteInts (r.take 12), r.drop 12, byteInts ys with
        | some lx, [.int .i64 t], some ly => if Nat.beq lx.length 12 && Nat.beq ly.length 12 then
            some (peerV (admX b (lessXY (fun i => lx.getD i 0) (fun i => ly.getD i 0)) t now (fun i => lx.getD i 0) (fun i => ly.getD i 0)) (admT b (lessXY (fun i => lx.getD i 0) (fun i => ly.getD i 0)) t now) (admC b (lessXY (fun i => lx.getD i 0) (fun i => ly.getD i 0)) t now), [], []) else none
        | _, _, _ => none
      | _, _ => none }

theorem admSum_sound (M : Mem) : admSum.SoundC Try.prog M := by
  refine sumC_sound Try.func29 (by kernel_rfl) (by kernel_rfl) fun args os v os' ns hs hp => ?_
  simp only [admSum] at hs ⊢
  split at hs
  · rename_i b r ys now
    split at hs
    · rename_i lx t ly h1 h2 h3
      split at hs
      · rename_i hc
        cases hs
        simp only [Bool.and_eq_true] at hc
        have l1 := Nat.eq_of_beq_eq_true hc.1
        have l2 := Nat.eq_of_beq_eq_true hc.2
        have e1 := byteInts_eq h1
        have e3 := byteInts_eq h3
        have er : r = lx.map (.int .u8) ++ [.int .i64 t] := by rw [← List.take_append_drop 12 r, e1, h2]
        subst er e3
        have := admit29 M b (fun i => lx.getD i 0) (fun i => ly.getD i 0) t now
        rw [map_cellsI, map_cellsI, l1, l2]
        exact ⟨this, fun _ => rfl⟩
      · cases hs
    · cases hs
  · cases hs

end Go.Proofs.Ythflpgckojnbmaa
