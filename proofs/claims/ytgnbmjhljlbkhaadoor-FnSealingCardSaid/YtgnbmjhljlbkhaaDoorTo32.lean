/- spec.l2Eight and spec.l1To32: their contracts.
   Conditions: bytes. -/
import Derived.Test.YtgnbmjhljlbkhaaDoorEight
open Go.Ab Go.Num
set_option linter.unusedVariables false
set_option linter.unusedSimpArgs false
namespace Go.Proofs.YtgnbmjhljlbkhaaDoor

def eightSum (f : FuncId) : Sum :=
  { f := f, ro := true
    S := fun args os => match args, os with
      | [.int .i64 n], [] => some (.slice (some ⟨0, 0, some 8⟩) 8 8, [], [⟨cellsI .u8 8 (eE n), true, 1, true⟩])
      | _, _ => none }
theorem eight62 (M : Mem) : (eightSum 62).Sound Tryd.prog M := sum_sound Tryd.func62 (by kernel_rfl) (by kernel_rfl) fun args os v os' ns hs => by
  simp only [eightSum] at hs ⊢
  split at hs
  · rename_i n
    cases hs
    exact ⟨acalls_of_evFU (ovX_ok _ _) nilC mix Tryd.func62 (hooksOk_nil _) (r62 M n) held_nil, fun _ => rfl⟩
  · cases hs

def ld32 (B : List Value) (g : Bool) (e : Nat) : Pins := (List.range 32).map fun i => (ldB .u8 ⟨B, g, e, true⟩ 64 (0 + i * 1), true)
set_option maxRecDepth 100000 in
theorem r48 (M : Mem) (B : List Value) (g : Bool) (e : Nat) : evFU Tryd.prog M (ovX Tryd.prog M) [17] [] [] [] 1000 Tryd.f48 [.slice (some ⟨0, 0, some 64⟩) 32 64] [⟨B, g, e, true⟩] []
   = some ((.agg ⟨cellsI .u8 32 (wd B)⟩, [⟨B, g, e, true⟩], []), ld32 B g e) := by kernel_rfl

def to32Sum (f : FuncId) : Sum :=
  { f := f, ro := true
    S := fun args os => match args, os with
      | [.slice (some ⟨0, 0, some 64⟩) 32 64], [⟨B, g, e, true⟩] => some (.agg ⟨cellsI .u8 32 (wd B)⟩, [⟨B, g, e, true⟩], [])
      | _, _ => none
    C := fun args os => match os with
      | [⟨B, _, _, _⟩] => [(blkB B, true)]
      | _ => [] }
theorem to48 (M : Mem) : (to32Sum 48).SoundC Tryd.prog M := sumC_sound Tryd.func48 (by kernel_rfl) (by kernel_rfl) fun args os v os' ns hs hp => by
  simp only [to32Sum] at hs hp ⊢
  split at hs
  · rename_i B g e
    cases hs
    have h : blkB B = true := hp (blkB B, true) (List.Mem.head _)
    refine ⟨acalls_of_evFU (ovX_ok _ _) nilC mix Tryd.func48 (hooksOk_nil _) (r48 M B g e) (fun x hx => ?_), fun _ => rfl⟩
    simp only [ld32, List.mem_map, List.mem_range] at hx
    obtain ⟨i, hi, rfl⟩ := hx
    have := blkB_ld h (g := g) (e := e) (j := i) (by omega)
    rwa [show 0 + (i : Int).toNat * 1 = 0 + i * 1 by omega] at this
  · cases hs

end Go.Proofs.YtgnbmjhljlbkhaaDoor
