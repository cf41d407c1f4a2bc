/- strconv.Itoa, by the kit's contract: the decimal text of a number.
   Conditions: the laid table of powers of ten. -/
import Derived.Test.YtfkdcpinajnbfaaDoorAbD
import Derived.Test.YtfkdcpinajnbfaaDoorBase
import Derived.Shelf.Strconv.Itoa3
open Go.Ab
set_option linter.unusedVariables false
set_option linter.unusedSimpArgs false
namespace Go.Proofs.YtfkdcpinajnbfaaDoor
open Go.Shelf
set_option maxRecDepth 100000
def laysM171_ren : Go.Shelf.Ren := ⟨fun | 171 => 19 | 243 => 26 | 246 => 33 | 283 => 37 | 284 => 38 | 285 => 39 | 286 => 40 | 129 => 43 | 317 => 42 | 318 => 44 | 319 => 45 | 320 => 46 | 337 => 47 | 338 => 48 | n => n, fun | 3 => 3 | 9 => 9 | 2 => 2 | 4 => 4 | 171 => 71 | 0 => 0 | 53 => 59 | 37 => 26 | 5 => 5 | 173 => 74 | 212 => 79 | 51 => 80 | 20 => 20 | 213 => 81 | 46 => 63 | 232 => 43 | 233 => 85 | n => n, fun | 17 => 0 | 18 => 1 | 19 => 2 | n => n⟩
theorem laysM171 : Go.Proofs.LaysM.n171 Tryd.prog laysM171_ren where
  mixed := by kernel_rfl
  f129 := Tryd.func43.trans (congrArg some (by kernel_rfl))
  f171 := Tryd.func19.trans (congrArg some (by kernel_rfl))
  f243 := Tryd.func26.trans (congrArg some (by kernel_rfl))
  f246 := Tryd.func33.trans (congrArg some (by kernel_rfl))
  f283 := Tryd.func37.trans (congrArg some (by kernel_rfl))
  f284 := Tryd.func38.trans (congrArg some (by kernel_rfl))
  f285 := Tryd.func39.trans (congrArg some (by kernel_rfl))
  f286 := Tryd.func40.trans (congrArg some (by kernel_rfl))
  f317 := Tryd.func42.trans (congrArg some (by kernel_rfl))
  f318 := Tryd.func44.trans (congrArg some (by kernel_rfl))
  f319 := Tryd.func45.trans (congrArg some (by kernel_rfl))
  f320 := Tryd.func46.trans (congrArg some (by kernel_rfl))
  f337 := Tryd.func47.trans (congrArg some (by kernel_rfl))
  f338 := Tryd.func48.trans (congrArg some (by kernel_rfl))
  t0 := Tryd.underlying0
  a0 := Tryd.isAgg0
  z0 := Tryd.sizeOf0
  v0 := Tryd.zeroValue0
  t2 := Tryd.underlying2
  a2 := Tryd.isAgg2
  z2 := Tryd.sizeOf2
  v2 := Tryd.zeroValue2
  t3 := Tryd.underlying3
  a3 := Tryd.isAgg3
  z3 := Tryd.sizeOf3
  v3 := Tryd.zeroValue3
  t4 := Tryd.underlying4
  a4 := Tryd.isAgg4
  z4 := Tryd.sizeOf4
  v4 := Tryd.zeroValue4
  t5 := Tryd.underlying5
  a5 := Tryd.isAgg5
  z5 := Tryd.sizeOf5
  v5 := Tryd.zeroValue5
  t9 := Tryd.underlying9
  a9 := Tryd.isAgg9
  z9 := Tryd.sizeOf9
  v9 := Tryd.zeroValue9
  t20 := Tryd.underlying20
  a20 := Tryd.isAgg20
  z20 := Tryd.sizeOf20
  v20 := Tryd.zeroValue20
  t37 := Tryd.underlying26
  a37 := Tryd.isAgg26
  z37 := Tryd.sizeOf26
  v37 := Tryd.zeroValue26
  t46 := Tryd.underlying63
  a46 := Tryd.isAgg63
  z46 := Tryd.sizeOf63
  v46 := Tryd.zeroValue63
  t51 := Tryd.underlying80
  a51 := Tryd.isAgg80
  z51 := Tryd.sizeOf80
  v51 := Tryd.zeroValue80
  t53 := Tryd.underlying59
  a53 := Tryd.isAgg59
  z53 := Tryd.sizeOf59
  v53 := Tryd.zeroValue59
  t171 := Tryd.underlying71
  a171 := Tryd.isAgg71
  z171 := Tryd.sizeOf71
  v171 := Tryd.zeroValue71
  t173 := Tryd.underlying74
  a173 := Tryd.isAgg74
  z173 := Tryd.sizeOf74
  v173 := Tryd.zeroValue74
  t212 := Tryd.underlying79
  a212 := Tryd.isAgg79
  z212 := Tryd.sizeOf79
  v212 := Tryd.zeroValue79
  t213 := Tryd.underlying81
  a213 := Tryd.isAgg81
  z213 := Tryd.sizeOf81
  t232 := Tryd.underlying43
  a232 := Tryd.isAgg43
  z232 := Tryd.sizeOf43
  v232 := Tryd.zeroValue43
  t233 := Tryd.underlying85
  a233 := Tryd.isAgg85
  z233 := Tryd.sizeOf85
  v233 := Tryd.zeroValue85
  g17 := by kernel_rfl
  g18 := by kernel_rfl
  g19 := by kernel_rfl
  i0 := by kernel_rfl
  i2 := by kernel_rfl
  i3 := by kernel_rfl
  i4 := by kernel_rfl
  i5 := by kernel_rfl
  i9 := by kernel_rfl
  i20 := by kernel_rfl
  i37 := by kernel_rfl
  i46 := by kernel_rfl
  i51 := by kernel_rfl
  i53 := by kernel_rfl
  i171 := by kernel_rfl
  i173 := by kernel_rfl
  i212 := by kernel_rfl
  i232 := by kernel_rfl
  i233 := by kernel_rfl
  m17 := by kernel_rfl
  m18 := by kernel_rfl
  m19 := by kernel_rfl

theorem gPow : Tryd.prog.globalNamed "internal/strconv.uint64pow10" = some 0 := by kernel_rfl
/-- The table of powers of ten lies whole in block 0. -/
def PowOk (M : Mem) : Prop := ∃ t fz, M.big 0 = some (.cells (Lib.pow10Tab.map fun z => Value.int .u64 z).toArray t fz)
theorem tabIs {M : Mem} (hM : PowOk M) {m : Pl} {h : AHeap} {w : World} (r : HRel M m h w) : Lib.TabIs Tryd.prog w "internal/strconv.uint64pow10" .u64 Lib.pow10Tab := by
  obtain ⟨t, fz, hb⟩ := hM
  have := (r.big 0 _ hb).1
  unfold Lib.TabIs World.var?
  rw [gPow]
  simp only [Option.bind_some]
  rw [this]

/-- New blocks behind the heap, and draws. -/
theorem tr_grow {M : Mem} {m : Pl} {h : AHeap} {w : World} (r : HRel M m h w) (k : Nat) (os : Array Obj) : Tr M m h w m h (Go.Sort.grow (w.drewN k) os) := by
  have hh : ∀ b, b < w.heap.size → (Go.Sort.grow (w.drewN k) os).heap[b]? = w.heap[b]? := fun b hb => by
    simp only [Go.Sort.grow, World.drewN]
    rw [Array.getElem?_append_left hb]
  refine ⟨⟨r.inj, fun i o hi => ?_, fun b off v hv => ?_, fun b x hx => ?_⟩, .refl m h, rfl, rfl, rfl, by simp [Go.Sort.grow, World.drewN], fun b hb _ => hh b hb, fun i o hi => .inr ⟨i, o, hi, rfl⟩⟩
  · obtain ⟨cs, t, fz, x⟩ := r.obj i o hi
    exact ⟨cs, t, fz, by rw [hh _ (r.lt hi)]; exact x.blk, x.size, x.len, x.free, x.one, x.flat, x.rel⟩
  · obtain ⟨h1, h2⟩ := r.ro b off v hv
    exact ⟨by rw [cell_of_heap (a := ⟨b, off, none⟩) (hh b (r.ro_lt hv))]; exact h1, h2⟩
  · obtain ⟨h1, h2⟩ := r.big b x hx
    exact ⟨(hh b (r.big_lt hx)).trans h1, h2⟩

theorem one_arg {m : Pl} {h : AHeap} {u : Value} {args' : Array Value} (hu : ground u = true) (hargs : LRel m h [u] args'.toList) : args' = #[u] := by
  obtain ⟨l⟩ := args'
  match l, hargs with
  | [v], hargs =>
    have := (hargs.2 0 u v rfl rfl).eq hu
    rw [this]
  | [], hargs => exact absurd hargs.1 (by simp)
  | _ :: _ :: _, hargs => exact absurd hargs.1 (by simp)

def i64B (n : Int) : Bool := decide (-9223372036854775808 ≤ n ∧ n ≤ 9223372036854775807)
def strOf (l : List UInt8) : Value := .string ⟨l.toArray⟩
def itoaSum : Sum :=
  { f := 19, ro := true
    S := fun args os => match args, os with
      | [.int .i64 n], [] => some (strOf (Lib.itoa n), [], [])
      | _, _ => none
    C := fun args os => match args with
      | [.int .i64 n] => [(i64B n, true)]
      | _ => [] }
theorem itoa_calls {M : Mem} (hM : PowOk M) {n : Int} (hn : i64B n = true) : ACalls Tryd.prog M 19 [.int .i64 n] [] (strOf (Lib.itoa n)) [] [] := by
  refine ⟨rfl, fun m w args' r hargs => ?_⟩
  obtain rfl := one_arg rfl hargs
  have hn : -9223372036854775808 ≤ n ∧ n ≤ 9223372036854775807 := of_decide_eq_true hn
  refine (Any.strconv_Itoa laysM171 n hn.1 hn.2 w (tabIs hM r)).mono ?_
  rintro e w' ⟨rfl, k, os, rfl⟩
  exact ⟨_, m, rfl, tr_grow r k os, .same rfl⟩
theorem itoaSum_sound {M : Mem} (hM : PowOk M) : itoaSum.SoundC Tryd.prog M := by
  refine sumC_sound Tryd.func19 (by kernel_rfl) (by kernel_rfl) fun args os v os' ns hs hp => ?_
  simp only [itoaSum] at hs hp ⊢
  split at hs
  · rename_i n
    cases hs
    exact ⟨itoa_calls hM (hp (i64B n, true) (List.Mem.head _)), fun _ => rfl⟩
  · cases hs
end Go.Proofs.YtfkdcpinajnbfaaDoor
