/- XSeal and XOpen, the specification's and the program's: contracts.
   Conditions: bytes in range. -/
import Derived.Test.YtgnbmjhljlbkhaaDoorAbD
import Derived.Test.YtgnbmjhljlbkhaaDoorOpen
import Derived.Test.YtgnbmjhljlbkhaaDoorHCha
open Go.Ab Go.Num
set_option linter.unusedVariables false
set_option linter.unusedSimpArgs false
namespace Go.Proofs.YtgnbmjhljlbkhaaDoor

/-- The key and the nonce that a nonce of 24 bytes makes. -/
def xK0 (K N : List Value) : List Value := keyF (wd K) (wd (cellsI .u8 16 (wd N)))
def xKf (K N : List Value) (i : Nat) : Int := wd (keyF (wd K) (wd (cellsI .u8 16 (wd N)))) i
def xK (K N : List Value) : List Value := cellsI .u8 32 (xKf K N)
theorem xK0_eq (K N : List Value) : xK0 K N = xK K N := isB_eq (by
  unfold xK0 keyF keyW isB
  rw [Bool.and_eq_true]
  refine ⟨by simp, List.all_eq_true.2 fun v hv => ?_⟩
  simp only [List.mem_map] at hv
  obtain ⟨i, _, rfl⟩ := hv
  rfl)
def xNf (nn : Nat → Int) (i : Nat) : Int := bif Nat.blt i 4 then 0 else nn (12 + i)
def xN (N : List Value) : List Value := cellsI .u8 12 (xNf (wd N))

noncomputable def I66 (M : Mem) : Sum := inl Tryd.prog M (fns []) 1000 66 Tryd.f66
theorem I66_s (M : Mem) : (I66 M).Sound Tryd.prog M := inl_sound fns_nil mix Tryd.func66 (by kernel_rfl) (by kernel_rfl)

def wideSum (f : FuncId) : Sum :=
  { f := f, ro := true
    S := fun args os => match args, os with
      | [.agg ⟨K⟩, .agg ⟨N⟩], [] => if isB 32 K && isB 24 N then some (.tuple ⟨[.agg ⟨xK K N⟩, .agg ⟨xN N⟩]⟩, [], []) else none
      | _, _ => none
    C := fun args _ => match args with
      | [.agg ⟨K⟩, .agg ⟨N⟩] => [(rngB K, true), (rngB N, true)]
      | _ => [] }

def wideP (k nn : Nat → Int) : Pins := [(rngB (cellsI .u8 32 k), true), (rngB (cellsI .u8 16 (wd (cellsI .u8 24 nn))), true)]
set_option maxRecDepth 100000 in
theorem r53 (M : Mem) (k nn : Nat → Int) : evFC Tryd.prog M [hchaSum 15, I66 M] [] 1000 Tryd.f53 [.agg ⟨cellsI .u8 32 k⟩, .agg ⟨cellsI .u8 24 nn⟩] [] []
   = some ((.tuple ⟨[.agg ⟨xK0 (cellsI .u8 32 k) (cellsI .u8 24 nn)⟩, .agg ⟨xN (cellsI .u8 24 nn)⟩]⟩, [], []), wideP k nn) := by kernel_rfl
set_option maxRecDepth 100000 in
theorem r54 (M : Mem) (k nn : Nat → Int) : evFC Tryd.prog M [hchaSum 17] [] 1000 Tryd.f54 [.agg ⟨cellsI .u8 32 k⟩, .agg ⟨cellsI .u8 24 nn⟩] [] []
   = some ((.tuple ⟨[.agg ⟨xK0 (cellsI .u8 32 k) (cellsI .u8 24 nn)⟩, .agg ⟨xN (cellsI .u8 24 nn)⟩]⟩, [], []), wideP k nn) := by kernel_rfl

theorem wideP_held {k nn : Nat → Int} (h1 : rngB (cellsI .u8 32 k) = true) (h2 : rngB (cellsI .u8 24 nn) = true) : Held (wideP k nn) :=
  held_cons h1 (held_one (rngB_cellsI (rngB_wd h2)))

theorem wideSum_sound {M : Mem} {f : FuncId} {fn : Func} (hf : Tryd.prog.funcs[f]? = some fn) (hn : (fn.name == "runtime.NumGoroutine") = false) (hb : fn.body.isSome = true)
    (h : ∀ (k nn : Nat → Int), Held (wideP k nn) → ACalls Tryd.prog M f [.agg ⟨cellsI .u8 32 k⟩, .agg ⟨cellsI .u8 24 nn⟩] [] (.tuple ⟨[.agg ⟨xK0 (cellsI .u8 32 k) (cellsI .u8 24 nn)⟩, .agg ⟨xN (cellsI .u8 24 nn)⟩]⟩) [] []) : (wideSum f).SoundC Tryd.prog M := by
  refine sumC_sound hf hn hb fun args os v os' ns hs hp => ?_
  simp only [wideSum] at hs hp ⊢
  split at hs
  · rename_i K N
    split at hs
    · rename_i hk
      cases hs
      simp only [Bool.and_eq_true] at hk
      have h1 : rngB K = true := hp (rngB K, true) (List.Mem.head _)
      have h2 : rngB N = true := hp (rngB N, true) (List.Mem.tail _ (List.Mem.head _))
      have eK := isB_eq hk.1
      have eN := isB_eq hk.2
      have := h (wd K) (wd N) (wideP_held (by rw [← eK]; exact h1) (by rw [← eN]; exact h2))
      rw [xK0_eq, ← eK, ← eN] at this
      exact ⟨this, fun _ => rfl⟩
    · cases hs
  · cases hs

theorem wide53 (M : Mem) : (wideSum 53).SoundC Tryd.prog M := wideSum_sound Tryd.func53 (by kernel_rfl) (by kernel_rfl) fun k nn h => acalls_of_evFC (consC (hcha15 M) (consC (I66_s M).c nilC)) mix Tryd.func53 (r53 M k nn) h
theorem wide54 (W : World) : (wideSum 54).SoundC Tryd.prog (memL tblCha W) := wideSum_sound Tryd.func54 (by kernel_rfl) (by kernel_rfl) fun k nn h => acalls_of_evFC (consC (hcha17 W) nilC) mix Tryd.func54 (r54 _ k nn) h

theorem xKf_has (K N : List Value) (i : Nat) (hi : i < 32) : IntKind.u8.has (xKf K N i) := by
  have h : xKf K N i = byteL (i % 4) (rF (wd (hStart word (wd K) (wd (cellsI .u8 16 (wd N))))) (if i < 16 then i / 4 else 8 + i / 4)) := by
    simp [xKf, keyF, keyW, wd, atC, hi, vint]
  rw [h]
  exact byteL_range _ _
theorem xK_rng (K N : List Value) : rngB (xK K N) = true := by
  unfold rngB xK
  rw [List.all_eq_true]
  intro v hv
  simp only [cellsI, List.mem_map, List.mem_range] at hv
  obtain ⟨i, hi, rfl⟩ := hv
  exact hasB_iff.2 (xKf_has _ _ _ hi)
theorem xN_rng {N : List Value} (h : rngB N = true) : rngB (xN N) = true := rngB_cellsI fun i => by
  unfold xNf
  cases Nat.blt i 4 with
  | true => show (0 : Int) ≤ 0 ∧ (0 : Int) ≤ 255; decide
  | false => exact rngB_wd h _

/-! ### XSeal -/
def xsealSum (f : FuncId) : Sum :=
  { f := f, ro := true
    S := fun args os => match args, os with
      | [.agg ⟨K⟩, .agg ⟨N⟩, .slice (some ⟨0, f1, some s1⟩) n c, .slice (some ⟨1, f2, some s2⟩) m d], [⟨X, true, 1, true⟩, ⟨Y, true, 1, true⟩] =>
        if isB 32 K && isB 24 N then some (.slice (some ⟨2, 0, some (n + 16)⟩) (n + 16) (n + 16), [⟨X, true, 1, true⟩, ⟨Y, true, 1, true⟩], [⟨cellsI .u8 (n + 16) (boxF (xK K N) (xN N) X f1 n Y f2 m), true, 1, true⟩]) else none
      | _, _ => none
    C := fun args os => match args, os with
      | [.agg ⟨K⟩, .agg ⟨N⟩, .slice (some ⟨0, f1, some s1⟩) n c, .slice (some ⟨1, f2, some s2⟩) m d], [⟨X, _, _, _⟩, ⟨Y, _, _, _⟩] => [(rngB K, true), (rngB N, true), (dataB X s1 f1 n c && Nat.ble n 65536, true), (dataB Y s2 f2 m d && Nat.ble m 65536, true)]
      | _, _ => [] }
def noXSealSum (f : FuncId) : Sum :=
  { f := f, ro := true
    S := fun args os => match args, os with
      | [.agg ⟨K⟩, .agg ⟨N⟩, .slice (some ⟨0, f1, some s1⟩) n c, .slice (some ⟨1, f2, some s2⟩) m d], [⟨X, true, 1, true⟩, ⟨Y, true, 1, true⟩] =>
        if isB 32 K && isB 24 N then some (.slice none 0 0, [⟨X, true, 1, true⟩, ⟨Y, true, 1, true⟩], []) else none
      | _, _ => none
    C := fun args os => match args, os with
      | [.agg ⟨K⟩, .agg ⟨N⟩, .slice (some ⟨0, f1, some s1⟩) n c, .slice (some ⟨1, f2, some s2⟩) m d], _ => [(rngB K, true), (rngB N, true), (Nat.blt 65536 n || Nat.blt 65536 m, true)]
      | _, _ => [] }
def xopenSum (f : FuncId) (e : Nat) : Sum :=
  { f := f, ro := true
    S := fun args os => match args, os with
      | [.agg ⟨K⟩, .agg ⟨N⟩, .slice (some ⟨0, f1, some s1⟩) n c, .slice (some ⟨1, f2, some s2⟩) m d], [⟨X, true, 1, true⟩, ⟨Y, true, 1, true⟩] =>
        if isB 32 K && isB 24 N then some (.tuple ⟨[.slice (some ⟨2, 0, some (n - 16 + e)⟩) (n - 16) (n - 16 + e), .bool true]⟩, [⟨X, true, 1, true⟩, ⟨Y, true, 1, true⟩], [⟨textV (xK K N) (xN N) X f1 n e, true, 1, true⟩]) else none
      | _, _ => none
    C := fun args os => match args, os with
      | [.agg ⟨K⟩, .agg ⟨N⟩, .slice (some ⟨0, f1, some s1⟩) n c, .slice (some ⟨1, f2, some s2⟩) m d], [⟨X, _, _, _⟩, ⟨Y, _, _, _⟩] =>
        [(rngB K, true), (rngB N, true), (dataB X s1 f1 n c && (Nat.ble 16 n && Nat.ble n 65552), true), (dataB Y s2 f2 m d && Nat.ble m 65536, true), (tagB (xK K N) (xN N) X f1 n Y f2 m, true)]
      | _, _ => [] }
def noXOpenSum (f : FuncId) : Sum :=
  { f := f, ro := true
    S := fun args os => match args, os with
      | [.agg ⟨K⟩, .agg ⟨N⟩, .slice (some ⟨0, f1, some s1⟩) n c, .slice (some ⟨1, f2, some s2⟩) m d], [⟨X, true, 1, true⟩, ⟨Y, true, 1, true⟩] =>
        if isB 32 K && isB 24 N then some (.tuple ⟨[.slice none 0 0, .bool false]⟩, [⟨X, true, 1, true⟩, ⟨Y, true, 1, true⟩], []) else none
      | _, _ => none
    C := fun args os => match args, os with
      | [.agg ⟨K⟩, .agg ⟨N⟩, .slice (some ⟨0, f1, some s1⟩) n c, .slice (some ⟨1, f2, some s2⟩) m d], [⟨X, _, _, _⟩, ⟨Y, _, _, _⟩] =>
        [(rngB K, true), (rngB N, true), (dataB X s1 f1 n c, true), (dataB Y s2 f2 m d, true), (lenBad n m || !tagB (xK K N) (xN N) X f1 n Y f2 m, true)]
      | _, _ => [] }

def xP (k nn : Nat → Int) : Pins := [(rngB (cellsI .u8 32 k), true), (rngB (cellsI .u8 24 nn), true)]
def yP (k nn : Nat → Int) : Pins := [(rngB (xK (cellsI .u8 32 k) (cellsI .u8 24 nn)), true), (rngB (xN (cellsI .u8 24 nn)), true)]
set_option maxRecDepth 100000 in
theorem x27a (M : Mem) (k nn : Nat → Int) (f1 s1 n c f2 s2 m d : Nat) (X Y : List Value) : evFC Tryd.prog M [wideSum 53, sealSum 19] [] 300 Tryd.f27 [.agg ⟨cellsI .u8 32 k⟩, .agg ⟨cellsI .u8 24 nn⟩, .slice (some ⟨0, f1, some s1⟩) n c, .slice (some ⟨1, f2, some s2⟩) m d] [⟨X, true, 1, true⟩, ⟨Y, true, 1, true⟩] []
   = some ((.slice (some ⟨2, 0, some (n + 16)⟩) (n + 16) (n + 16), [⟨X, true, 1, true⟩, ⟨Y, true, 1, true⟩], [⟨cellsI .u8 (n + 16) (boxF (xK (cellsI .u8 32 k) (cellsI .u8 24 nn)) (xN (cellsI .u8 24 nn)) X f1 n Y f2 m), true, 1, true⟩]), xP k nn ++ (yP k nn ++ [(dataB X s1 f1 n c && Nat.ble n 65536, true), (dataB Y s2 f2 m d && Nat.ble m 65536, true)])) := parts_eq (by kernel_rfl) (by kernel_rfl) (by kernel_rfl) (by kernel_rfl) (by kernel_rfl)
set_option maxRecDepth 100000 in
theorem x29a (M : Mem) (k nn : Nat → Int) (f1 s1 n c f2 s2 m d : Nat) (X Y : List Value) : evFC Tryd.prog M [wideSum 54, sealSum 21] [] 300 Tryd.f29 [.agg ⟨cellsI .u8 32 k⟩, .agg ⟨cellsI .u8 24 nn⟩, .slice (some ⟨0, f1, some s1⟩) n c, .slice (some ⟨1, f2, some s2⟩) m d] [⟨X, true, 1, true⟩, ⟨Y, true, 1, true⟩] []
   = some ((.slice (some ⟨2, 0, some (n + 16)⟩) (n + 16) (n + 16), [⟨X, true, 1, true⟩, ⟨Y, true, 1, true⟩], [⟨cellsI .u8 (n + 16) (boxF (xK (cellsI .u8 32 k) (cellsI .u8 24 nn)) (xN (cellsI .u8 24 nn)) X f1 n Y f2 m), true, 1, true⟩]), xP k nn ++ (yP k nn ++ [(dataB X s1 f1 n c && Nat.ble n 65536, true), (dataB Y s2 f2 m d && Nat.ble m 65536, true)])) := parts_eq (by kernel_rfl) (by kernel_rfl) (by kernel_rfl) (by kernel_rfl) (by kernel_rfl)
set_option maxRecDepth 100000 in
theorem x27n (M : Mem) (k nn : Nat → Int) (f1 s1 n c f2 s2 m d : Nat) (X Y : List Value) : evFC Tryd.prog M [wideSum 53, noSealSum 19] [] 300 Tryd.f27 [.agg ⟨cellsI .u8 32 k⟩, .agg ⟨cellsI .u8 24 nn⟩, .slice (some ⟨0, f1, some s1⟩) n c, .slice (some ⟨1, f2, some s2⟩) m d] [⟨X, true, 1, true⟩, ⟨Y, true, 1, true⟩] []
   = some ((.slice none 0 0, [⟨X, true, 1, true⟩, ⟨Y, true, 1, true⟩], []), xP k nn ++ [(Nat.blt 65536 n || Nat.blt 65536 m, true)]) := parts_eq (by kernel_rfl) (by kernel_rfl) (by kernel_rfl) (by kernel_rfl) (by kernel_rfl)
set_option maxRecDepth 100000 in
theorem x29n (M : Mem) (k nn : Nat → Int) (f1 s1 n c f2 s2 m d : Nat) (X Y : List Value) : evFC Tryd.prog M [wideSum 54, noSealSum 21] [] 300 Tryd.f29 [.agg ⟨cellsI .u8 32 k⟩, .agg ⟨cellsI .u8 24 nn⟩, .slice (some ⟨0, f1, some s1⟩) n c, .slice (some ⟨1, f2, some s2⟩) m d] [⟨X, true, 1, true⟩, ⟨Y, true, 1, true⟩] []
   = some ((.slice none 0 0, [⟨X, true, 1, true⟩, ⟨Y, true, 1, true⟩], []), xP k nn ++ [(Nat.blt 65536 n || Nat.blt 65536 m, true)]) := parts_eq (by kernel_rfl) (by kernel_rfl) (by kernel_rfl) (by kernel_rfl) (by kernel_rfl)
set_option maxRecDepth 100000 in
theorem x30a (M : Mem) (k nn : Nat → Int) (f1 s1 n c f2 s2 m d : Nat) (X Y : List Value) : evFC Tryd.prog M [wideSum 53, openSum 25 0] [] 300 Tryd.f30 [.agg ⟨cellsI .u8 32 k⟩, .agg ⟨cellsI .u8 24 nn⟩, .slice (some ⟨0, f1, some s1⟩) n c, .slice (some ⟨1, f2, some s2⟩) m d] [⟨X, true, 1, true⟩, ⟨Y, true, 1, true⟩] []
   = some ((.tuple ⟨[.slice (some ⟨2, 0, some (n - 16 + 0)⟩) (n - 16) (n - 16 + 0), .bool true]⟩, [⟨X, true, 1, true⟩, ⟨Y, true, 1, true⟩], [⟨textV (xK (cellsI .u8 32 k) (cellsI .u8 24 nn)) (xN (cellsI .u8 24 nn)) X f1 n 0, true, 1, true⟩]), xP k nn ++ (yP k nn ++ [(dataB X s1 f1 n c && (Nat.ble 16 n && Nat.ble n 65552), true), (dataB Y s2 f2 m d && Nat.ble m 65536, true), (tagB (xK (cellsI .u8 32 k) (cellsI .u8 24 nn)) (xN (cellsI .u8 24 nn)) X f1 n Y f2 m, true)])) := parts_eq (by kernel_rfl) (by kernel_rfl) (by kernel_rfl) (by kernel_rfl) (by kernel_rfl)
set_option maxRecDepth 100000 in
theorem x31a (M : Mem) (k nn : Nat → Int) (f1 s1 n c f2 s2 m d : Nat) (X Y : List Value) : evFC Tryd.prog M [wideSum 54, openSum 26 16] [] 300 Tryd.f31 [.agg ⟨cellsI .u8 32 k⟩, .agg ⟨cellsI .u8 24 nn⟩, .slice (some ⟨0, f1, some s1⟩) n c, .slice (some ⟨1, f2, some s2⟩) m d] [⟨X, true, 1, true⟩, ⟨Y, true, 1, true⟩] []
   = some ((.tuple ⟨[.slice (some ⟨2, 0, some (n - 16 + 16)⟩) (n - 16) (n - 16 + 16), .bool true]⟩, [⟨X, true, 1, true⟩, ⟨Y, true, 1, true⟩], [⟨textV (xK (cellsI .u8 32 k) (cellsI .u8 24 nn)) (xN (cellsI .u8 24 nn)) X f1 n 16, true, 1, true⟩]), xP k nn ++ (yP k nn ++ [(dataB X s1 f1 n c && (Nat.ble 16 n && Nat.ble n 65552), true), (dataB Y s2 f2 m d && Nat.ble m 65536, true), (tagB (xK (cellsI .u8 32 k) (cellsI .u8 24 nn)) (xN (cellsI .u8 24 nn)) X f1 n Y f2 m, true)])) := parts_eq (by kernel_rfl) (by kernel_rfl) (by kernel_rfl) (by kernel_rfl) (by kernel_rfl)
set_option maxRecDepth 100000 in
theorem x30n (M : Mem) (k nn : Nat → Int) (f1 s1 n c f2 s2 m d : Nat) (X Y : List Value) : evFC Tryd.prog M [wideSum 53, noOpenSum 25] [] 300 Tryd.f30 [.agg ⟨cellsI .u8 32 k⟩, .agg ⟨cellsI .u8 24 nn⟩, .slice (some ⟨0, f1, some s1⟩) n c, .slice (some ⟨1, f2, some s2⟩) m d] [⟨X, true, 1, true⟩, ⟨Y, true, 1, true⟩] []
   = some ((.tuple ⟨[.slice none 0 0, .bool false]⟩, [⟨X, true, 1, true⟩, ⟨Y, true, 1, true⟩], []), xP k nn ++ (yP k nn ++ [(dataB X s1 f1 n c, true), (dataB Y s2 f2 m d, true), (lenBad n m || !tagB (xK (cellsI .u8 32 k) (cellsI .u8 24 nn)) (xN (cellsI .u8 24 nn)) X f1 n Y f2 m, true)])) := parts_eq (by kernel_rfl) (by kernel_rfl) (by kernel_rfl) (by kernel_rfl) (by kernel_rfl)
set_option maxRecDepth 100000 in
theorem x31n (M : Mem) (k nn : Nat → Int) (f1 s1 n c f2 s2 m d : Nat) (X Y : List Value) : evFC Tryd.prog M [wideSum 54, noOpenSum 26] [] 300 Tryd.f31 [.agg ⟨cellsI .u8 32 k⟩, .agg ⟨cellsI .u8 24 nn⟩, .slice (some ⟨0, f1, some s1⟩) n c, .slice (some ⟨1, f2, some s2⟩) m d] [⟨X, true, 1, true⟩, ⟨Y, true, 1, true⟩] []
   = some ((.tuple ⟨[.slice none 0 0, .bool false]⟩, [⟨X, true, 1, true⟩, ⟨Y, true, 1, true⟩], []), xP k nn ++ (yP k nn ++ [(dataB X s1 f1 n c, true), (dataB Y s2 f2 m d, true), (lenBad n m || !tagB (xK (cellsI .u8 32 k) (cellsI .u8 24 nn)) (xN (cellsI .u8 24 nn)) X f1 n Y f2 m, true)])) := parts_eq (by kernel_rfl) (by kernel_rfl) (by kernel_rfl) (by kernel_rfl) (by kernel_rfl)

theorem xseal27 (M : Mem) : (xsealSum 27).SoundC Tryd.prog M := by
  refine sumC_sound Tryd.func27 (by kernel_rfl) (by kernel_rfl) fun args os v os' ns hs hp => ?_
  simp only [xsealSum] at hs hp ⊢
  split at hs
  · rename_i K N f1 s1 n c f2 s2 m d X Y
    split at hs
    · rename_i hk
      cases hs
      simp only [Bool.and_eq_true] at hk
      have h1 : rngB K = true := hp (rngB K, true) (List.Mem.head _)
      have h2 : rngB N = true := hp (rngB N, true) (List.Mem.tail _ (List.Mem.head _))
      have q0 := hp (_, true) (List.Mem.tail _ (List.Mem.tail _ (List.Mem.head _)))
      have q1 := hp (_, true) (List.Mem.tail _ (List.Mem.tail _ (List.Mem.tail _ (List.Mem.head _))))
      have eK := isB_eq hk.1
      have eN := isB_eq hk.2
      have := acalls_of_evFC (l := [wideSum 53, sealSum 19]) (consC (wide53 M) (consC (seal19 M) nilC)) mix Tryd.func27 (x27a M (wd K) (wd N) f1 s1 n c f2 s2 m d X Y) (by
        unfold xP; try unfold yP
        rw [← eK, ← eN]
        exact held_cons h1 (held_cons h2 (held_cons (xK_rng _ _) (held_cons (xN_rng h2) (held_cons q0 (held_one q1))))))
      rw [← eK, ← eN] at this
      exact ⟨this, fun _ => rfl⟩
    · cases hs
  · cases hs

theorem xseal29 (W : World) : (xsealSum 29).SoundC Tryd.prog (memL tblCha W) := by
  refine sumC_sound Tryd.func29 (by kernel_rfl) (by kernel_rfl) fun args os v os' ns hs hp => ?_
  simp only [xsealSum] at hs hp ⊢
  split at hs
  · rename_i K N f1 s1 n c f2 s2 m d X Y
    split at hs
    · rename_i hk
      cases hs
      simp only [Bool.and_eq_true] at hk
      have h1 : rngB K = true := hp (rngB K, true) (List.Mem.head _)
      have h2 : rngB N = true := hp (rngB N, true) (List.Mem.tail _ (List.Mem.head _))
      have q0 := hp (_, true) (List.Mem.tail _ (List.Mem.tail _ (List.Mem.head _)))
      have q1 := hp (_, true) (List.Mem.tail _ (List.Mem.tail _ (List.Mem.tail _ (List.Mem.head _))))
      have eK := isB_eq hk.1
      have eN := isB_eq hk.2
      have := acalls_of_evFC (l := [wideSum 54, sealSum 21]) (consC (wide54 W) (consC (seal21 W) nilC)) mix Tryd.func29 (x29a (memL tblCha W) (wd K) (wd N) f1 s1 n c f2 s2 m d X Y) (by
        unfold xP; try unfold yP
        rw [← eK, ← eN]
        exact held_cons h1 (held_cons h2 (held_cons (xK_rng _ _) (held_cons (xN_rng h2) (held_cons q0 (held_one q1))))))
      rw [← eK, ← eN] at this
      exact ⟨this, fun _ => rfl⟩
    · cases hs
  · cases hs

theorem noXSeal27 (M : Mem) : (noXSealSum 27).SoundC Tryd.prog M := by
  refine sumC_sound Tryd.func27 (by kernel_rfl) (by kernel_rfl) fun args os v os' ns hs hp => ?_
  simp only [noXSealSum] at hs hp ⊢
  split at hs
  · rename_i K N f1 s1 n c f2 s2 m d X Y
    split at hs
    · rename_i hk
      cases hs
      simp only [Bool.and_eq_true] at hk
      have h1 : rngB K = true := hp (rngB K, true) (List.Mem.head _)
      have h2 : rngB N = true := hp (rngB N, true) (List.Mem.tail _ (List.Mem.head _))
      have q0 := hp (_, true) (List.Mem.tail _ (List.Mem.tail _ (List.Mem.head _)))
      have eK := isB_eq hk.1
      have eN := isB_eq hk.2
      have := acalls_of_evFC (l := [wideSum 53, noSealSum 19]) (consC (wide53 M) (consC (noSeal19 M) nilC)) mix Tryd.func27 (x27n M (wd K) (wd N) f1 s1 n c f2 s2 m d X Y) (by
        unfold xP; try unfold yP
        rw [← eK, ← eN]
        exact held_cons h1 (held_cons h2 (held_one q0)))
      rw [← eK, ← eN] at this
      exact ⟨this, fun _ => rfl⟩
    · cases hs
  · cases hs

theorem noXSeal29 (W : World) : (noXSealSum 29).SoundC Tryd.prog (memL tblCha W) := by
  refine sumC_sound Tryd.func29 (by kernel_rfl) (by kernel_rfl) fun args os v os' ns hs hp => ?_
  simp only [noXSealSum] at hs hp ⊢
  split at hs
  · rename_i K N f1 s1 n c f2 s2 m d X Y
    split at hs
    · rename_i hk
      cases hs
      simp only [Bool.and_eq_true] at hk
      have h1 : rngB K = true := hp (rngB K, true) (List.Mem.head _)
      have h2 : rngB N = true := hp (rngB N, true) (List.Mem.tail _ (List.Mem.head _))
      have q0 := hp (_, true) (List.Mem.tail _ (List.Mem.tail _ (List.Mem.head _)))
      have eK := isB_eq hk.1
      have eN := isB_eq hk.2
      have := acalls_of_evFC (l := [wideSum 54, noSealSum 21]) (consC (wide54 W) (consC (noSeal21 _) nilC)) mix Tryd.func29 (x29n (memL tblCha W) (wd K) (wd N) f1 s1 n c f2 s2 m d X Y) (by
        unfold xP; try unfold yP
        rw [← eK, ← eN]
        exact held_cons h1 (held_cons h2 (held_one q0)))
      rw [← eK, ← eN] at this
      exact ⟨this, fun _ => rfl⟩
    · cases hs
  · cases hs

theorem xopen30 (M : Mem) : (xopenSum 30 0).SoundC Tryd.prog M := by
  refine sumC_sound Tryd.func30 (by kernel_rfl) (by kernel_rfl) fun args os v os' ns hs hp => ?_
  simp only [xopenSum] at hs hp ⊢
  split at hs
  · rename_i K N f1 s1 n c f2 s2 m d X Y
    split at hs
    · rename_i hk
      cases hs
      simp only [Bool.and_eq_true] at hk
      have h1 : rngB K = true := hp (rngB K, true) (List.Mem.head _)
      have h2 : rngB N = true := hp (rngB N, true) (List.Mem.tail _ (List.Mem.head _))
      have q0 := hp (_, true) (List.Mem.tail _ (List.Mem.tail _ (List.Mem.head _)))
      have q1 := hp (_, true) (List.Mem.tail _ (List.Mem.tail _ (List.Mem.tail _ (List.Mem.head _))))
      have q2 := hp (_, true) (List.Mem.tail _ (List.Mem.tail _ (List.Mem.tail _ (List.Mem.tail _ (List.Mem.head _)))))
      have eK := isB_eq hk.1
      have eN := isB_eq hk.2
      have := acalls_of_evFC (l := [wideSum 53, openSum 25 0]) (consC (wide53 M) (consC (open25 M) nilC)) mix Tryd.func30 (x30a M (wd K) (wd N) f1 s1 n c f2 s2 m d X Y) (by
        unfold xP; try unfold yP
        rw [← eK, ← eN]
        exact held_cons h1 (held_cons h2 (held_cons (xK_rng _ _) (held_cons (xN_rng h2) (held_cons q0 (held_cons q1 (held_one q2)))))))
      rw [← eK, ← eN] at this
      exact ⟨this, fun _ => rfl⟩
    · cases hs
  · cases hs

theorem xopen31 (W : World) : (xopenSum 31 16).SoundC Tryd.prog (memL tblCha W) := by
  refine sumC_sound Tryd.func31 (by kernel_rfl) (by kernel_rfl) fun args os v os' ns hs hp => ?_
  simp only [xopenSum] at hs hp ⊢
  split at hs
  · rename_i K N f1 s1 n c f2 s2 m d X Y
    split at hs
    · rename_i hk
      cases hs
      simp only [Bool.and_eq_true] at hk
      have h1 : rngB K = true := hp (rngB K, true) (List.Mem.head _)
      have h2 : rngB N = true := hp (rngB N, true) (List.Mem.tail _ (List.Mem.head _))
      have q0 := hp (_, true) (List.Mem.tail _ (List.Mem.tail _ (List.Mem.head _)))
      have q1 := hp (_, true) (List.Mem.tail _ (List.Mem.tail _ (List.Mem.tail _ (List.Mem.head _))))
      have q2 := hp (_, true) (List.Mem.tail _ (List.Mem.tail _ (List.Mem.tail _ (List.Mem.tail _ (List.Mem.head _)))))
      have eK := isB_eq hk.1
      have eN := isB_eq hk.2
      have := acalls_of_evFC (l := [wideSum 54, openSum 26 16]) (consC (wide54 W) (consC (open26 W) nilC)) mix Tryd.func31 (x31a (memL tblCha W) (wd K) (wd N) f1 s1 n c f2 s2 m d X Y) (by
        unfold xP; try unfold yP
        rw [← eK, ← eN]
        exact held_cons h1 (held_cons h2 (held_cons (xK_rng _ _) (held_cons (xN_rng h2) (held_cons q0 (held_cons q1 (held_one q2)))))))
      rw [← eK, ← eN] at this
      exact ⟨this, fun _ => rfl⟩
    · cases hs
  · cases hs

theorem noXOpen30 (M : Mem) : (noXOpenSum 30).SoundC Tryd.prog M := by
  refine sumC_sound Tryd.func30 (by kernel_rfl) (by kernel_rfl) fun args os v os' ns hs hp => ?_
  simp only [noXOpenSum] at hs hp ⊢
  split at hs
  · rename_i K N f1 s1 n c f2 s2 m d X Y
    split at hs
    · rename_i hk
      cases hs
      simp only [Bool.and_eq_true] at hk
      have h1 : rngB K = true := hp (rngB K, true) (List.Mem.head _)
      have h2 : rngB N = true := hp (rngB N, true) (List.Mem.tail _ (List.Mem.head _))
      have q0 := hp (_, true) (List.Mem.tail _ (List.Mem.tail _ (List.Mem.head _)))
      have q1 := hp (_, true) (List.Mem.tail _ (List.Mem.tail _ (List.Mem.tail _ (List.Mem.head _))))
      have q2 := hp (_, true) (List.Mem.tail _ (List.Mem.tail _ (List.Mem.tail _ (List.Mem.tail _ (List.Mem.head _)))))
      have eK := isB_eq hk.1
      have eN := isB_eq hk.2
      have := acalls_of_evFC (l := [wideSum 53, noOpenSum 25]) (consC (wide53 M) (consC (noOpen25 M) nilC)) mix Tryd.func30 (x30n M (wd K) (wd N) f1 s1 n c f2 s2 m d X Y) (by
        unfold xP; try unfold yP
        rw [← eK, ← eN]
        exact held_cons h1 (held_cons h2 (held_cons (xK_rng _ _) (held_cons (xN_rng h2) (held_cons q0 (held_cons q1 (held_one q2)))))))
      rw [← eK, ← eN] at this
      exact ⟨this, fun _ => rfl⟩
    · cases hs
  · cases hs

theorem noXOpen31 (W : World) : (noXOpenSum 31).SoundC Tryd.prog (memL tblCha W) := by
  refine sumC_sound Tryd.func31 (by kernel_rfl) (by kernel_rfl) fun args os v os' ns hs hp => ?_
  simp only [noXOpenSum] at hs hp ⊢
  split at hs
  · rename_i K N f1 s1 n c f2 s2 m d X Y
    split at hs
    · rename_i hk
      cases hs
      simp only [Bool.and_eq_true] at hk
      have h1 : rngB K = true := hp (rngB K, true) (List.Mem.head _)
      have h2 : rngB N = true := hp (rngB N, true) (List.Mem.tail _ (List.Mem.head _))
      have q0 := hp (_, true) (List.Mem.tail _ (List.Mem.tail _ (List.Mem.head _)))
      have q1 := hp (_, true) (List.Mem.tail _ (List.Mem.tail _ (List.Mem.tail _ (List.Mem.head _))))
      have q2 := hp (_, true) (List.Mem.tail _ (List.Mem.tail _ (List.Mem.tail _ (List.Mem.tail _ (List.Mem.head _)))))
      have eK := isB_eq hk.1
      have eN := isB_eq hk.2
      have := acalls_of_evFC (l := [wideSum 54, noOpenSum 26]) (consC (wide54 W) (consC (noOpen26 W) nilC)) mix Tryd.func31 (x31n (memL tblCha W) (wd K) (wd N) f1 s1 n c f2 s2 m d X Y) (by
        unfold xP; try unfold yP
        rw [← eK, ← eN]
        exact held_cons h1 (held_cons h2 (held_cons (xK_rng _ _) (held_cons (xN_rng h2) (held_cons q0 (held_cons q1 (held_one q2)))))))
      rw [← eK, ← eN] at this
      exact ⟨this, fun _ => rfl⟩
    · cases hs
  · cases hs

end Go.Proofs.YtgnbmjhljlbkhaaDoor
