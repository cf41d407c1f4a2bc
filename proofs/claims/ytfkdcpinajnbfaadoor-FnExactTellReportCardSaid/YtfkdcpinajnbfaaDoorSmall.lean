/- Facts on this program: arrays and sources copied, compared; a slice measured.
   Conditions: none. -/
import Derived.Test.YtfkdcpinajnbfaaDoorToS
import Derived.Test.YtfkdcpinajnbfaaDoorSlices
import Derived.Test.YtfkdcpinajnbfaaDoorAbD
open Go.Ab Go.Num
set_option linter.unusedVariables false
set_option linter.unusedSimpArgs false
namespace Go.Proofs.YtfkdcpinajnbfaaDoor
set_option maxRecDepth 100000
theorem eqA32 (M : Mem) : (eqSum 35 32).Sound Tryd.prog M := eqSum_sound mix Tryd.func35 (by kernel_rfl) (by kernel_rfl) (sym := [16]) (fuel := 1000) (fun x y => by kernel_rfl)
theorem eqA16 (M : Mem) : (eqSum 41 16).Sound Tryd.prog M := eqSum_sound mix Tryd.func41 (by kernel_rfl) (by kernel_rfl) (sym := [16]) (fuel := 1000) (fun x y => by kernel_rfl)
theorem rA32 (M : Mem) (x : Nat → Int) : evFT Tryd.prog M (fns []) [] 1000 Tryd.f32 [.agg ⟨cellsI .u8 32 x⟩] [] = some (.agg ⟨cellsI .u8 32 x⟩, [], []) := by kernel_rfl
theorem rA16 (M : Mem) (x : Nat → Int) : evFT Tryd.prog M (fns []) [] 1000 Tryd.f36 [.agg ⟨cellsI .u8 16 x⟩] [] = some (.agg ⟨cellsI .u8 16 x⟩, [], []) := by kernel_rfl

def sameSum (f : FuncId) (n : Nat) : Sum :=
  { f := f, ro := true
    S := fun args os => match args, os with
      | [.agg ⟨A⟩], [] => if isB n A then some (.agg ⟨A⟩, [], []) else none
      | _, _ => none }
theorem same32 (M : Mem) : (sameSum 32 32).Sound Tryd.prog M := sum_sound Tryd.func32 (by kernel_rfl) (by kernel_rfl) fun args os v os' ns hs => by
  simp only [sameSum] at hs ⊢
  split at hs
  · rename_i A
    split at hs
    · rename_i hA
      cases hs
      have := acalls_of_evFT fns_nil mix Tryd.func32 (rA32 M (wd A))
      rw [← isB_eq hA] at this
      exact ⟨this, fun _ => rfl⟩
    · cases hs
  · cases hs
theorem same16 (M : Mem) : (sameSum 36 16).Sound Tryd.prog M := sum_sound Tryd.func36 (by kernel_rfl) (by kernel_rfl) fun args os v os' ns hs => by
  simp only [sameSum] at hs ⊢
  split at hs
  · rename_i A
    split at hs
    · rename_i hA
      cases hs
      have := acalls_of_evFT fns_nil mix Tryd.func36 (rA16 M (wd A))
      rw [← isB_eq hA] at this
      exact ⟨this, fun _ => rfl⟩
    · cases hs
  · cases hs

/-! ### Observations -/
structure Ob where
  vd : Int
  dh : Int
  ld : Bool
  v6 : Bool
  addr : Nat → Int
  port : Int
  cl : Int
  chain : Nat → Int
  hash : Nat → Int
def srcCells (v6 : Bool) (addr : Nat → Int) (port : Int) : List Value := [.bool v6] ++ cellsI .u8 16 addr ++ [.int .u16 port]
/-- An observation's cells; what it sends lies in this slice. -/
def obC (o : Ob) (s : Value) : List Value := [.int .i64 o.vd, .int .i64 o.dh, .bool o.ld] ++ srcCells o.v6 o.addr o.port ++ [s, .int .i64 o.cl] ++ cellsI .u8 32 o.chain ++ cellsI .u8 32 o.hash
noncomputable def I30 (M : Mem) : Sum := inl Tryd.prog M (fns [sameSum 36 16]) 1000 30 Tryd.f30
theorem I30s (M : Mem) : (I30 M).Sound Tryd.prog M := inl_sound (fns_sound (fns_cons (same16 M) (by simp))) mix Tryd.func30 (by kernel_rfl) (by kernel_rfl)
theorem ob25s (M : Mem) (o : Ob) (b off n c : Nat) : evFC Tryd.prog M [I30 M, toSum M 31, sameSum 32 32] [] 2000 Tryd.f25 [.agg ⟨obC o (.slice (some ⟨b, off, none⟩) n c)⟩] [] []
   = some ((.agg ⟨obC o (.slice (some ⟨0, 0, some n⟩) n n)⟩, [], [⟨cellsI .u8 n (roN M b off), true, 1, true⟩]), [(roAll M b off n, true)]) := by kernel_rfl
theorem ob25z (M : Mem) (o : Ob) : evFC Tryd.prog M [I30 M, toSum M 31, sameSum 32 32] [] 2000 Tryd.f25 [.agg ⟨obC o (.slice none 0 0)⟩] [] []
   = some ((.agg ⟨obC o (.slice (some ⟨0, 0, some 0⟩) 0 0)⟩, [], [⟨[], true, 1, true⟩]), []) := by kernel_rfl
end Go.Proofs.YtfkdcpinajnbfaaDoor
