/- An initiation that is drawn, and both parsers by contracts: what they give of any bytes of the right length.
   Conditions: the variable errShape is as the program's text lays it. -/
import Derived.Test.YthflpgckojnbmaaDoorParse
import Derived.Test.YthflpgckojnbmaaDoorBytes
import Derived.Test.YthflpgckojnbmaaDoorAbD
open Go.Ab Go.Num
set_option linter.unusedVariables false
set_option linter.unusedSimpArgs false
namespace Go.Proofs.YthflpgckojnbmaaDoor

/-! ### spec.L4Init -/
/-- The bytes behind the number: 32, 48, 28, 16, 16. -/
def x5 (a b c d e : Nat → Int) (j : Nat) : Int := bif Nat.blt j 32 then a j else bif Nat.blt j 80 then b (j - 32) else bif Nat.blt j 108 then c (j - 80) else bif Nat.blt j 124 then d (j - 108) else e (j - 124)
def IniP (P : Program) (M : Mem) (f : FuncId) (u : Option (Nat × Nat)) (n c : Nat) (g : Bool) (e : Nat) (p : Int × Int) (r : Int × (Nat → Int) × (Int × Int)) : Prop :=
  IntKind.u32.has r.1 ∧ (∀ j, IntKind.u8.has (r.2.1 j)) ∧ 0 ≤ r.2.2.2 ∧ ACalls P M f [.pointer (some ⟨0, 0, some 3⟩)] [⟨srcC u n c p.2 p.1, g, e, false⟩] (.agg ⟨.int .u32 r.1 :: cellsI .u8 140 r.2.1⟩) [⟨srcC u n c r.2.2.2 r.2.2.1, g, e, false⟩] []
noncomputable def iniR (P : Program) (M : Mem) (f : FuncId) (u : Option (Nat × Nat)) (n c : Nat) (g : Bool) (e : Nat) (p : Int × Int) : Int × (Nat → Int) × (Int × Int) :=
  @Classical.epsilon (Int × (Nat → Int) × (Int × Int)) ⟨(0, (fun _ => 0, (0, 0)))⟩ (IniP P M f u n c g e p)
noncomputable def iniSum (P : Program) (M : Mem) (f : FuncId) : Sum :=
  { f := f, ro := false
    S := fun args os => match args, os with
      | [.pointer (some ⟨0, 0, some 3⟩)], [⟨[.slice (some ⟨b, off, none⟩) n c, .int .i64 i, .int .u64 x], g, e, false⟩] =>
          some (.agg ⟨.int .u32 (iniR P M f (some (b, off)) n c g e (x, i)).1 :: cellsI .u8 140 (iniR P M f (some (b, off)) n c g e (x, i)).2.1⟩,
            [⟨[.slice (some ⟨b, off, none⟩) n c, .int .i64 (iniR P M f (some (b, off)) n c g e (x, i)).2.2.2, .int .u64 (iniR P M f (some (b, off)) n c g e (x, i)).2.2.1], g, e, false⟩], [])
      | [.pointer (some ⟨0, 0, some 3⟩)], [⟨[.slice none 0 0, .int .i64 i, .int .u64 x], g, e, false⟩] =>
          some (.agg ⟨.int .u32 (iniR P M f none 0 0 g e (x, i)).1 :: cellsI .u8 140 (iniR P M f none 0 0 g e (x, i)).2.1⟩,
            [⟨[.slice none 0 0, .int .i64 (iniR P M f none 0 0 g e (x, i)).2.2.2, .int .u64 (iniR P M f none 0 0 g e (x, i)).2.2.1], g, e, false⟩], [])
      | _, _ => none
    C := fun args os => match os with
      | [⟨[.slice u n c, .int .i64 i, .int .u64 x], g, e, false⟩] => [(srcOk M u n i, true)]
      | _ => [] }
def IniX (P : Program) (M : Mem) (f : FuncId) : Prop := ∀ (u : Option (Nat × Nat)) (n c : Nat) (g : Bool) (e : Nat) (p : Int × Int), srcOk M (srcA u) (lenS u n) p.2 = true → ∃ r, IniP P M f u n c g e p r
theorem iniR_ok {P : Program} {M : Mem} {f : FuncId} (hx : IniX P M f) {u : Option (Nat × Nat)} {n c : Nat} {g : Bool} {e : Nat} {p : Int × Int} (h : srcOk M (srcA u) (lenS u n) p.2 = true) :
    IniP P M f u n c g e p (iniR P M f u n c g e p) := Classical.epsilon_spec (hx u n c g e p h)
theorem iniSum_sound {P : Program} {M : Mem} {f : FuncId} {fn : Func} (hf : P.funcs[f]? = some fn) (hn : (fn.name == "runtime.NumGoroutine") = false) (hb : fn.body.isSome = true) (hx : IniX P M f) : (iniSum P M f).SoundC P M := by
  refine sumC_sound hf hn hb fun args os v os' ns hs hp => ?_
  simp only [iniSum] at hs hp ⊢
  split at hs
  · rename_i b off n c i x g e
    cases hs
    have h1 : srcOk M (some ⟨b, off, none⟩) n i = true := hp (_, true) (List.Mem.head _)
    exact ⟨(iniR_ok hx (u := some (b, off)) (c := c) (g := g) (e := e) (p := (x, i)) h1).2.2.2, fun h => by cases h⟩
  · rename_i i x g e
    cases hs
    have h1 : srcOk M none 0 i = true := hp (_, true) (List.Mem.head _)
    exact ⟨(iniR_ok hx (u := none) (n := 0) (c := 0) (g := g) (e := e) (p := (x, i)) h1).2.2.2, fun h => by cases h⟩
  · cases hs

section
variable (M : Mem) (u : Option (Nat × Nat)) (n c : Nat) (g : Bool) (e : Nat) (p : Int × Int)
noncomputable def iA : Int × Int := drawC M (srcA u) (lenS u n) p 1
noncomputable def iB : (Nat → Int) × (Int × Int) := arrR Tryd.prog M 34 32 u n c g e (iA M u n p)
noncomputable def iC (j : Nat) : Int × Int := drawC M (srcA u) (lenS u n) (iB M u n c g e p).2 j
noncomputable def iD : (Nat → Int) × (Int × Int) := bytR Tryd.prog M 18 u n c g e (iC M u n c g e p 76) 16
noncomputable def iE : (Nat → Int) × (Int × Int) := bytR Tryd.prog M 18 u n c g e (iD M u n c g e p).2 16
noncomputable def iF : Nat → Int := x5 (iB M u n c g e p).1 (fun j => IntKind.u8.wrap (nK 256 (iC M u n c g e p (j + 1)).1)) (fun j => IntKind.u8.wrap (nK 256 (iC M u n c g e p (j + 49)).1)) (iD M u n c g e p).1 (iE M u n c g e p).1
noncomputable def pinsIni : Pins := dPin M (srcA u) (lenS u n) p 2000000000 ++ ((srcOk M (srcA u) (lenS u n) (iA M u n p).2, true) :: (dPins M (srcA u) (lenS u n) (iC M u n c g e p) 256 0 76 ++
  [(srcOk M (srcA u) (lenS u n) (iC M u n c g e p 76).2, true), (true, true), (srcOk M (srcA u) (lenS u n) (iD M u n c g e p).2.2, true), (true, true)]))
end
noncomputable def LI (M : Mem) : List Sum := [nSumG M 20, arrSumG Tryd.prog M 34 32, bytSumG Tryd.prog M 18, I30 M]
theorem LI_sound (M : Mem) : ∀ s ∈ LI M, s.SoundC Tryd.prog M := consC (dN M) (consC (dK M) (consC (dB M) (consC (I30_s M) nilC)))
set_option maxRecDepth 100000 in
theorem r15s (M : Mem) (b off n c : Nat) (i x : Int) (g : Bool) (e : Nat) : evFC Tryd.prog M (LI M) [] 2000 Tryd.f15 [.pointer (some ⟨0, 0, some 3⟩)] [⟨[.slice (some ⟨b, off, none⟩) n c, .int .i64 i, .int .u64 x], g, e, false⟩] []
   = some ((.agg ⟨.int .u32 (IntKind.u32.wrap (IntKind.u32.wrap (nK 2000000000 (iA M (some (b, off)) n (x, i)).1) * 3)) :: cellsI .u8 140 (iF M (some (b, off)) n c g e (x, i))⟩,
      [⟨srcC (some (b, off)) n c (iE M (some (b, off)) n c g e (x, i)).2.2 (iE M (some (b, off)) n c g e (x, i)).2.1, g, e, false⟩], []), pinsIni M (some (b, off)) n c g e (x, i)) := parts_eq (by kernel_rfl) (by kernel_rfl) (by kernel_rfl) (by kernel_rfl) (by kernel_rfl)
set_option maxRecDepth 100000 in
theorem r15z (M : Mem) (i x : Int) (g : Bool) (e : Nat) : evFC Tryd.prog M (LI M) [] 2000 Tryd.f15 [.pointer (some ⟨0, 0, some 3⟩)] [⟨[.slice none 0 0, .int .i64 i, .int .u64 x], g, e, false⟩] []
   = some ((.agg ⟨.int .u32 (IntKind.u32.wrap (IntKind.u32.wrap (nK 2000000000 (iA M none 0 (x, i)).1) * 3)) :: cellsI .u8 140 (iF M none 0 0 g e (x, i))⟩,
      [⟨srcC none 0 0 (iE M none 0 0 g e (x, i)).2.2 (iE M none 0 0 g e (x, i)).2.1, g, e, false⟩], []), pinsIni M none 0 0 g e (x, i)) := parts_eq (by kernel_rfl) (by kernel_rfl) (by kernel_rfl) (by kernel_rfl) (by kernel_rfl)

theorem u32_wrap (n : Int) : IntKind.u32.has (IntKind.u32.wrap n) := by
  rw [wrap_u32]; show 0 ≤ _ ∧ _ ≤ (4294967295 : Int); omega
theorem x5_has {a b c d e : Nat → Int} (ha : ∀ j, IntKind.u8.has (a j)) (hb : ∀ j, IntKind.u8.has (b j)) (hc : ∀ j, IntKind.u8.has (c j)) (hd : ∀ j, IntKind.u8.has (d j)) (he : ∀ j, IntKind.u8.has (e j)) (j : Nat) : IntKind.u8.has (x5 a b c d e j) := by
  unfold x5
  cases Nat.blt j 32 with
  | true => exact ha j
  | false => cases Nat.blt j 80 with
    | true => exact hb _
    | false => cases Nat.blt j 108 with
      | true => exact hc _
      | false => cases Nat.blt j 124 with
        | true => exact hd _
        | false => exact he _

theorem ini_held {M : Mem} {u : Option (Nat × Nat)} {n c : Nat} {g : Bool} {e : Nat} {p : Int × Int} (h : srcOk M (srcA u) (lenS u n) p.2 = true) :
    Held (pinsIni M u n c g e p) ∧ (∀ j, IntKind.u8.has (iF M u n c g e p j)) ∧ 0 ≤ (iE M u n c g e p).2.2 := by
  obtain ⟨h1, h2, h3⟩ := srcOk_iff.1 h
  have hs : ∀ q : Int, 0 ≤ q → srcOk M (srcA u) (lenS u n) q = true := fun q hq => srcOk_iff.2 ⟨h1, h2, hq⟩
  have hA : 0 ≤ (iA M u n p).2 := drawC_ok h2 h3 1
  obtain ⟨b1, b2, _⟩ := arrR_ok (dK_x M) (c := c) (g := g) (e := e) (p := iA M u n p) (hs _ hA)
  have hC : ∀ j, 0 ≤ (iC M u n c g e p j).2 := fun j => drawC_ok h2 b2 j
  obtain ⟨d1, d2, _⟩ := bytR_ok (dB_x M) (c := c) (g := g) (e := e) (p := iC M u n c g e p 76) (k := 16) (hs _ (hC 76)) (by decide)
  obtain ⟨e1, e2, _⟩ := bytR_ok (dB_x M) (c := c) (g := g) (e := e) (p := (iD M u n c g e p).2) (k := 16) (hs _ d2) (by decide)
  refine ⟨?_, x5_has b1 (fun j => u8_wrap _) (fun j => u8_wrap _) d1 e1, e2⟩
  exact held_two (dPin_held h1 h3 (by decide)) (held_cons (hs _ hA) (held_two (dPins_held h1 hC (by decide) 76 0) (held_cons (hs _ (hC 76)) (held_cons rfl (held_cons (hs _ d2) (held_one rfl))))))

theorem ini_x (M : Mem) : IniX Tryd.prog M 15 := fun u n c g e p h => by
  obtain ⟨x, i⟩ := p
  cases u with
  | some q =>
    obtain ⟨b, off⟩ := q
    obtain ⟨k1, k2, k3⟩ := ini_held (c := c) (g := g) (e := e) h
    exact ⟨(_, (_, (_, _))), u32_wrap _, k2, k3, acalls_of_evFC (LI_sound M) mix Tryd.func15 (r15s M b off n c i x g e) k1⟩
  | none =>
    obtain ⟨k1, k2, k3⟩ := ini_held (u := none) (n := 0) (c := 0) (g := g) (e := e) (p := (x, i)) h
    exact ⟨(_, (_, (_, _))), u32_wrap _, k2, k3, acalls_of_evFC (LI_sound M) mix Tryd.func15 (r15z M i x g e) k1⟩
theorem ini15 (M : Mem) : (iniSum Tryd.prog M 15).SoundC Tryd.prog M := iniSum_sound Tryd.func15 (by kernel_rfl) (by kernel_rfl) (ini_x M)

/-! ### The parsers -/
/-- What a parser gives: K bytes behind the head, or nothing. -/
def prsV (K : Nat) (k : Int) (x : Nat → Int) : Value :=
  .tuple #[.agg ⟨.int .u32 (bif headR k x then wordI (x 4) (x 5) (x 6) (x 7) else 0) :: cellsI .u8 K (fun i => bif headR k x then x (8 + i) else 0)⟩, .bool (headR k x)]
def prsSum (f : FuncId) (N K : Nat) (k : Int) : Sum :=
  { f := f, ro := true
    S := fun args os => match args, os with
      | [.slice (some ⟨0, 0, some s⟩) n c], [⟨cells, true, 1, true⟩] => some (prsV K k (wd cells), [⟨cells, true, 1, true⟩], [])
      | _, _ => none
    C := fun args os => match args, os with
      | [.slice (some ⟨0, 0, some s⟩) n c], [⟨cells, _, _, _⟩] => [(decide (s = N ∧ n = N ∧ c = N) && (isB N cells && rngB cells), true)]
      | _, _ => [] }
theorem prsSum_sound {f : FuncId} {fn : Func} {M : Mem} {N K : Nat} {k : Int} (hf : Tryd.prog.funcs[f]? = some fn) (hn : (fn.name == "runtime.NumGoroutine") = false) (hb : fn.body.isSome = true)
    (h : ∀ x : Nat → Int, (∀ i, i < N → IntKind.u8.has (x i)) → ACalls Tryd.prog M f [.slice (some ⟨0, 0, some N⟩) N N] [⟨cellsI .u8 N x, true, 1, true⟩] (prsV K k x) [⟨cellsI .u8 N x, true, 1, true⟩] []) : (prsSum f N K k).SoundC Tryd.prog M := by
  refine sumC_sound hf hn hb fun args os v os' ns hs hp => ?_
  simp only [prsSum] at hs hp ⊢
  split at hs
  · rename_i s n c cells
    cases hs
    have h1 := hp (_, true) (List.Mem.head _)
    simp only [Bool.and_eq_true, decide_eq_true_eq] at h1
    obtain ⟨⟨rfl, rfl, rfl⟩, h2, h3⟩ := h1
    have e := isB_eq h2
    have := h (wd cells) (fun i _ => rngB_wd h3 i)
    rw [← e] at this
    exact ⟨this, fun _ => rfl⟩
  · cases hs
set_option maxRecDepth 100000 in
theorem r12g (W : World) (ab ao : Nat) (x : Nat → Int) : evFC Tryd.prog (memL (tblErr ab ao) W) [I25 (memL (tblErr ab ao) W) [17] false, isSum, I26 (memL (tblErr ab ao) W), I27 (memL (tblErr ab ao) W)] [] 1000 Tryd.f12 [.slice (some ⟨0, 0, some 148⟩) 148 148] [⟨cellsI .u8 148 x, true, 1, true⟩] []
   = some ((.tuple #[.agg ⟨.int .u32 (wordI (x 4) (x 5) (x 6) (x 7)) :: cellsI .u8 140 (fun i => x (8 + i))⟩, .bool true], [⟨cellsI .u8 148 x, true, 1, true⟩], []), headI 1 x false ++ isNil ab ao) := by kernel_rfl
set_option maxRecDepth 100000 in
theorem r12b (W : World) (ab ao : Nat) (x : Nat → Int) : evFC Tryd.prog (memL (tblErr ab ao) W) [I25 (memL (tblErr ab ao) W) [17] true, isSum, I26 (memL (tblErr ab ao) W), I27 (memL (tblErr ab ao) W)] [] 1000 Tryd.f12 [.slice (some ⟨0, 0, some 148⟩) 148 148] [⟨cellsI .u8 148 x, true, 1, true⟩] []
   = some ((.tuple #[.agg ⟨.int .u32 0 :: cellsI .u8 140 (fun _ => 0)⟩, .bool false], [⟨cellsI .u8 148 x, true, 1, true⟩], []), headI 1 x true ++ isSame ab ao) := by kernel_rfl
set_option maxRecDepth 100000 in
theorem r8g (W : World) (ab ao : Nat) (x : Nat → Int) : evFC Tryd.prog (memL (tblErr ab ao) W) [I25 (memL (tblErr ab ao) W) [17] false, isSum, I26 (memL (tblErr ab ao) W), I27 (memL (tblErr ab ao) W)] [] 1000 Tryd.f8 [.slice (some ⟨0, 0, some 64⟩) 64 64] [⟨cellsI .u8 64 x, true, 1, true⟩] []
   = some ((.tuple #[.agg ⟨.int .u32 (wordI (x 4) (x 5) (x 6) (x 7)) :: cellsI .u8 56 (fun i => x (8 + i))⟩, .bool true], [⟨cellsI .u8 64 x, true, 1, true⟩], []), headI 3 x false ++ isNil ab ao) := by kernel_rfl
set_option maxRecDepth 100000 in
theorem r8b (W : World) (ab ao : Nat) (x : Nat → Int) : evFC Tryd.prog (memL (tblErr ab ao) W) [I25 (memL (tblErr ab ao) W) [17] true, isSum, I26 (memL (tblErr ab ao) W), I27 (memL (tblErr ab ao) W)] [] 1000 Tryd.f8 [.slice (some ⟨0, 0, some 64⟩) 64 64] [⟨cellsI .u8 64 x, true, 1, true⟩] []
   = some ((.tuple #[.agg ⟨.int .u32 0 :: cellsI .u8 56 (fun _ => 0)⟩, .bool false], [⟨cellsI .u8 64 x, true, 1, true⟩], []), headI 3 x true ++ isSame ab ao) := by kernel_rfl

theorem LP_sound (M : Mem) (b : Bool) : ∀ s ∈ [I25 M [17] b, isSum, I26 M, I27 M], s.SoundC Tryd.prog M := consC (I25_s M [17] b) (consC (isSum_sound M) (consC (I26_s M) (consC (I27_s M) nilC)))
theorem prs12 (W : World) (ab ao : Nat) : (prsSum 12 148 140 1).SoundC Tryd.prog (memL (tblErr ab ao) W) := prsSum_sound Tryd.func12 (by kernel_rfl) (by kernel_rfl) fun x hx => by
  have h4 : ∀ i, i < 4 → IntKind.u8.has (x i) := fun i hi => hx i (by omega)
  cases hg : headR 1 x with
  | true =>
    have := acalls_of_evFC (LP_sound _ _) mix Tryd.func12 (r12g W ab ao x) (held_two (headI_held ⟨by decide, by decide⟩ h4 (by rw [hg]; rfl)) isP_nil)
    unfold prsV
    rw [hg]
    exact this
  | false =>
    have := acalls_of_evFC (LP_sound _ _) mix Tryd.func12 (r12b W ab ao x) (held_two (headI_held ⟨by decide, by decide⟩ h4 (by rw [hg]; rfl)) isP_same)
    unfold prsV
    rw [hg]
    exact this
theorem prs8 (W : World) (ab ao : Nat) : (prsSum 8 64 56 3).SoundC Tryd.prog (memL (tblErr ab ao) W) := prsSum_sound Tryd.func8 (by kernel_rfl) (by kernel_rfl) fun x hx => by
  have h4 : ∀ i, i < 4 → IntKind.u8.has (x i) := fun i hi => hx i (by omega)
  cases hg : headR 3 x with
  | true =>
    have := acalls_of_evFC (LP_sound _ _) mix Tryd.func8 (r8g W ab ao x) (held_two (headI_held ⟨by decide, by decide⟩ h4 (by rw [hg]; rfl)) isP_nil)
    unfold prsV
    rw [hg]
    exact this
  | false =>
    have := acalls_of_evFC (LP_sound _ _) mix Tryd.func8 (r8b W ab ao x) (held_two (headI_held ⟨by decide, by decide⟩ h4 (by rw [hg]; rfl)) isP_same)
    unfold prsV
    rw [hg]
    exact this

/-! ### What the parsers are given and what is written -/
noncomputable def I14 (M : Mem) : Sum := inl Tryd.prog M (fns []) 1000 14 Tryd.f14
theorem I14_s (M : Mem) : (I14 M).Sound Tryd.prog M := inl_sound fns_nil mix Tryd.func14 (by kernel_rfl) (by kernel_rfl)
noncomputable def I35 (M : Mem) : Sum := inl Tryd.prog M (fns []) 1000 35 Tryd.f35
theorem I35_s (M : Mem) : (I35 M).Sound Tryd.prog M := inl_sound fns_nil mix Tryd.func35 (by kernel_rfl) (by kernel_rfl)
noncomputable def I16 (M : Mem) : Sum := inl Tryd.prog M (fns [I35 M]) 1000 16 Tryd.f16
theorem I16_s (M : Mem) : (I16 M).Sound Tryd.prog M := inl_sound (fns_sound (fns_cons (I35_s M) (by simp))) mix Tryd.func16 (by kernel_rfl) (by kernel_rfl)
noncomputable def I19 (M : Mem) : Sum := inl Tryd.prog M (fns [I35 M]) 1000 19 Tryd.f19
theorem I19_s (M : Mem) : (I19 M).Sound Tryd.prog M := inl_sound (fns_sound (fns_cons (I35_s M) (by simp))) mix Tryd.func19 (by kernel_rfl) (by kernel_rfl)
noncomputable def I17 (M : Mem) : Sum := inl Tryd.prog M (fns []) 1000 17 Tryd.f17
theorem I17_s (M : Mem) : (I17 M).Sound Tryd.prog M := inl_sound fns_nil mix Tryd.func17 (by kernel_rfl) (by kernel_rfl)

end Go.Proofs.YthflpgckojnbmaaDoor
