/- The law FnExactTaiLess returns true of every two stamps, which read behind the call as before.
   Conditions: none. -/
import Derived.Test.YthflpgckojnbmaaAbB
import Derived.Test.YthflpgckojnbmaaBase
open Go.Ab
namespace Go.Proofs.Ythflpgckojnbmaa

theorem kStamp : flatK Try.prog 23 = some (List.replicate 12 (.int .u8)) := by kernel_rfl

noncomputable def KCmp (M : Mem) : Fns := fns [cmpSum M 53]
theorem KCmp_sound (M : Mem) : (KCmp M).Sound Try.prog M := fns_sound (fns_cons (cmpSum_sound Try.func53 (by kernel_rfl) (by kernel_rfl) (by kernel_rfl) (by rfl)) (by simp))

noncomputable def KLess (M : Mem) : Fns := fns [inl Try.prog M (KCmp M) 1000 41 Try.f41]
theorem KLess_sound (M : Mem) : (KLess M).Sound Try.prog M := fns_sound (fns_cons (inl_sound (KCmp_sound M) mix Try.func41 (by kernel_rfl) (by kernel_rfl)) (by simp))

set_option maxRecDepth 100000 in
theorem run14 (M : Mem) (x y : Nat → Int) : evFT Try.prog M (KLess M) [] 1000 Try.f14 [.agg ⟨cellsI .u8 12 x⟩, .agg ⟨cellsI .u8 12 y⟩] [] = 
  some (.bool (decide (Lib.compareBytes (Lib.bytesOf ((List.range 12).map x)) (Lib.bytesOf ((List.range 12).map y)) < 0)), [], []) := by kernel_rfl
set_option maxRecDepth 100000 in
theorem run12 (M : Mem) (x y : Nat → Int) : evFT Try.prog M (fns []) [] 1000 Try.f12 [.agg ⟨cellsI .u8 12 x⟩, .agg ⟨cellsI .u8 12 y⟩] [] = 
  some (.bool (Op.bytesLess (ByteArray.toList ⟨(Lib.bytesOf ((List.range 12).map x)).toArray⟩) (ByteArray.toList ⟨(Lib.bytesOf ((List.range 12).map y)).toArray⟩)), [], []) := by kernel_rfl

/-- The answer of both. -/
def lessSum (f : FuncId) : Sum := { f := f, ro := true, S := fun args os => match args, os with
  | [.agg ⟨xs⟩, .agg ⟨ys⟩], [] => match byteInts xs, byteInts ys with
    | some l, some l' => if Nat.beq l.length 12 && Nat.beq l'.length 12 then some (.bool (Op.bytesLess (Lib.bytesOf l) (Lib.bytesOf l')), [], []) else none
    | _, _ => none
  | _, _ => none }

theorem lessSum_sound {M : Mem} {f : FuncId} {fn : Func} (hf : Try.prog.funcs[f]? = some fn) (hn : (fn.name == "runtime.NumGoroutine") = false) (hb : fn.body.isSome = true)
    (h : ∀ x y : Nat → Int, ACalls Try.prog M f [.agg ⟨cellsI .u8 12 x⟩, .agg ⟨cellsI .u8 12 y⟩] [] (.bool (Op.bytesLess (Lib.bytesOf ((List.range 12).map x)) (Lib.bytesOf ((List.range 12).map y)))) [] []) : (lessSum f).Sound Try.prog M := by
  refine sum_sound hf hn hb fun args os v os' ns hs => ?_
  simp only [lessSum] at hs ⊢
  split at hs
  · rename_i xs ys
    split at hs
    · rename_i l l' hl hl'
      split at hs
      · rename_i hc
        cases hs
        simp only [Bool.and_eq_true] at hc
        have h1 := Nat.eq_of_beq_eq_true hc.1
        have h2 := Nat.eq_of_beq_eq_true hc.2
        have e1 := byteInts_eq hl
        have e2 := byteInts_eq hl'
        subst e1 e2
        have := h (fun i => l.getD i 0) (fun i => l'.getD i 0)
        rw [map_cellsI, map_cellsI, h1, h2]
        have r1 := range_getD l
        have r2 := range_getD l'
        rw [h1] at r1
        rw [h2] at r2
        rw [r1, r2] at this
        exact ⟨this, fun _ => rfl⟩
      · cases hs
    · cases hs
  · cases hs

theorem less14 (M : Mem) : (lessSum 14).Sound Try.prog M := lessSum_sound Try.func14 (by kernel_rfl) (by kernel_rfl) fun x y => by
  have := acalls_of_evFT (KLess_sound M) mix Try.func14 (run14 M x y)
  rw [compare_neg] at this
  exact this
theorem less12 (M : Mem) : (lessSum 12).Sound Try.prog M := lessSum_sound Try.func12 (by kernel_rfl) (by kernel_rfl) fun x y => by
  have := acalls_of_evFT fns_nil mix Try.func12 (run12 M x y)
  simp only [Lib.toList_data] at this
  exact this

noncomputable def K4 (M : Mem) : Fns := fns [lessSum 12, lessSum 14, inl Try.prog M (fns []) 1000 13 Try.f13]
theorem K4_sound (M : Mem) : (K4 M).Sound Try.prog M := fns_sound (fns_cons (less12 M) (fns_cons (less14 M) (fns_cons (inl_sound fns_nil mix Try.func13 (by kernel_rfl) (by kernel_rfl)) (by simp))))

set_option maxRecDepth 100000 in
theorem run4a (M : Mem) (x y : Nat → Int) : evFO Try.prog M (K4 M) [19] 1000 Try.f4 [.agg ⟨cellsI .u8 12 x⟩, .agg ⟨cellsI .u8 12 y⟩] [] [] [false] =
   some ((.bool true, [], []), [(!(Op.bytesLess (Lib.bytesOf ((List.range 12).map x)) (Lib.bytesOf ((List.range 12).map y)) == Op.bytesLess (Lib.bytesOf ((List.range 12).map x)) (Lib.bytesOf ((List.range 12).map y))), false)]) := by kernel_rfl

theorem run4 (W : World) (base : Nat) (v0 : Value) (h0 : Value.okWide Try.prog W .any base 23 v0) {H : Type} {enc : TypeId × Value → H} {d : DataW H} {p : List MemPlace} (_ : DataW.Trod enc Try.prog W 0 (fun _ => true) true 23 v0 d p)
    (v1 : Value) (h1 : Value.okWide Try.prog W .any base 23 v1) {d1 : DataW H} {p1 : List MemPlace} (_ : DataW.Trod enc Try.prog W 0 (fun _ => true) true 23 v1 d1 p1) :
    groundL [v0, v1] = true ∧ ∃ ns, ACalls Try.prog (memOf W) 4 [v0, v1] [] (.bool true) [] ns := by
  obtain ⟨cs, rfl, hc⟩ := flat_ok kStamp h0
  obtain ⟨cs1, rfl, hc1⟩ := flat_ok kStamp h1
  refine ⟨by simp only [groundL, ground, groundA, hc.ground, hc1.ground, Bool.and_true], [], ?_⟩
  obtain ⟨x, rfl, _⟩ := cvs_cells (by exact ⟨by decide, by decide⟩) hc
  obtain ⟨y, rfl, _⟩ := cvs_cells (by exact ⟨by decide, by decide⟩) hc1
  exact acalls_of_evFO (K4_sound _) mix Try.func4 (run4a _ x y) (held_one (by simp))

set_option maxRecDepth 100000 in
theorem FnExactTaiLess_lifted (os : Os) (started : os.Started) (H : Type) (enc : TypeId × Value → H) :
    ReturnsInHanded {} Try.checked os 4 .any (Rows.fnExactTaiLessSpec.pre6 enc Try.prog Try.f4 Rows.fnExactTaiLessRow.domain false) (Rows.fnExactTaiLessSpec.post enc Try.prog Try.f4 false true false false) :=
  lifted own (by kernel_rfl) Try.func4 (tb := 4) (by kernel_rfl) Try.underlying4 (by kernel_rfl) rfl (fun H ds h => by
      obtain ⟨_, _, rfl⟩ := len2 (l := ds) (h.trans (by kernel_rfl)); rfl)
    (fun W base H enc args ds ps h hv => by
      rw [show Try.f4.params = _ from Try.params4] at h hv
      obtain ⟨v0, v1, d0, d1, p0, p1, rfl, rfl, rfl, h0, h1⟩ := Go.ChangeShapes.trodAll_two h
      exact run4 W base v0 (hv 0 _ v0 rfl rfl) h0 v1 (hv 1 _ v1 rfl rfl) h1) os started enc
    (ChangeSpec.witness6 (enc := enc) (C := Try.checked) false ⟨#[], #[(.agg (Array.replicate 12 (.int .u8 0))), (.agg (Array.replicate 12 (.int .u8 0)))], []⟩ 64 (by kernel_rfl) (by kernel_rfl) (by kernel_rfl) (by kernel_rfl))

set_option maxRecDepth 100000 in
/-- The statement. -/
theorem FnExactTaiLess_holds : Rows.FnExactTaiLessSaid :=
  OpenClaim.holds_of_wide 4 Try.f4 rfl rfl rfl rfl rfl rfl rfl ⟨rfl, rfl, rfl, rfl, rfl⟩ rfl rfl rfl rfl rfl (by kernel_rfl) Try.func4 (by kernel_rfl)
    (of_decide_eq_true (by kernel_rfl)) (by unfold Func.isWrapper; first | (rw [if_pos (by decide +kernel)]; kernel_rfl) | (rw [if_neg (by decide +kernel)]; exact ⟨rfl, rfl⟩))
    (fun os started H enc _ => FnExactTaiLess_lifted os started H enc)

end Go.Proofs.Ythflpgckojnbmaa
