/- join: texts appended one behind the other.
   Conditions: lengths. -/
import Derived.Test.YtfkdcpinajnbfaaDoorSrc
open Go.Ab Go.Num
set_option linter.unusedVariables false
set_option linter.unusedSimpArgs false
namespace Go.Proofs.YtfkdcpinajnbfaaDoor
set_option maxRecDepth 100000
def scs (T : List UInt8) : List Value := strCells ⟨T.toArray⟩ T.length
theorem scs_eq (T : List UInt8) : scs T = tx T := by
  show (T.take T.length).map _ = _
  rw [List.take_length]; rfl
def jnC : List (List UInt8) → List Value → Nat → List Value
  | [], X, _ => X
  | T :: r, X, h => jnC r (X.take (h * 1) ++ scs T) (h + T.length)
def jnN : List (List UInt8) → Nat → Nat
  | [], h => h
  | T :: r, h => jnN r (h + T.length)
def jnZ (X : List Value) (l sz : Nat) (T : List UInt8) : Bool := Nat.beq 0 0 && (Nat.beq 1 1 && (decide (l = l) && (decide (sz = l * 1) && (decide (X.length = sz) && (room (l + T.length) 1 && (okC true (scs T) true && (decide (1 = 1) && decide (T.length ≤ T.length))))))))
def jnP : List (List UInt8) → List Value → Nat → Nat → Pins
  | [], _, _, _ => []
  | T :: r, X, h, s => (jnZ X h s T, true) :: jnP r (X.take (h * 1) ++ scs T) (h + T.length) ((h + T.length) * 1)
theorem jn_all : ∀ (r : List (List UInt8)) (X : List Value) (h s : Nat), X.length = h → s = h → h + r.flatten.length ≤ 10000000000000 → jnC r X h = X ++ tx r.flatten ∧ jnN r h = h + r.flatten.length ∧ Held (jnP r X h s) := by
  intro r
  induction r with
  | nil => intro X h s _ _ _; simp [jnC, jnN, jnP, tx, held_nil]
  | cons T r ih =>
    intro X h s hX hs hl
    simp only [List.flatten_cons, List.length_append] at hl
    have e : X.take (h * 1) ++ scs T = X ++ tx T := by rw [scs_eq, Nat.mul_one, List.take_of_length_le (by omega)]
    simp only [jnC, jnN, jnP, e]
    obtain ⟨h1, h2, h3⟩ := ih (X ++ tx T) (h + T.length) ((h + T.length) * 1) (by rw [List.length_append, tx_length, hX]) (Nat.mul_one _) (by omega)
    refine ⟨by rw [h1, List.flatten_cons, tx_append, List.append_assoc], by rw [h2, List.flatten_cons, List.length_append]; omega, held_cons ?_ h3⟩
    have h5 : room (h + T.length) 1 = true := room_ok (by omega)
    subst hs
    simp only [jnZ, h5, hX, okC, Nat.mul_one, decide_true, Bool.and_self, Bool.true_or, Nat.beq_refl, Nat.le_refl]
noncomputable abbrev ptS (i k : Nat) : Value := .slice (some ⟨i, 0, some k⟩) k k
section
variable (M : Mem) (X : List Value) (h e : Nat) (g : Bool) (T1 T2 T3 T4 T5 T6 T7 : List UInt8)
abbrev st4 (T1 T2 T3 T4 : List UInt8) : List Value := [strOf T1, strOf T2, strOf T3, strOf T4]
abbrev st7 (T1 T2 T3 T4 T5 T6 T7 : List UInt8) : List Value := [strOf T1, strOf T2, strOf T3, strOf T4, strOf T5, strOf T6, strOf T7]
theorem e18n : evFU Tryd.prog M (ovN Tryd.prog M) [15] [] [] [] 400 Tryd.f18 [.slice none 0 0, ptS 0 4] [⟨st4 T1 T2 T3 T4, g, e, false⟩] []
   = some ((.slice (some ⟨1, 0, some (jnN [T2, T3, T4] T1.length * 1)⟩) (jnN [T2, T3, T4] T1.length) (jnN [T2, T3, T4] T1.length), [⟨st4 T1 T2 T3 T4, g, e, false⟩], [⟨jnC [T2, T3, T4] (scs T1) T1.length, true, 1, true⟩]), (!Nat.beq T1.length 0 && room T1.length 1, true) :: jnP [T2, T3, T4] (scs T1) T1.length (T1.length * 1)) := by kernel_rfl
theorem e18f : evFU Tryd.prog M (ovN Tryd.prog M) [15] [] [] [] 400 Tryd.f18 [slN 0 h, ptS 1 4] [⟨X, true, 1, true⟩, ⟨st4 T1 T2 T3 T4, g, e, false⟩] []
   = some ((.slice (some ⟨0, 0, some (jnN [T1, T2, T3, T4] h * 1)⟩) (jnN [T1, T2, T3, T4] h) (jnN [T1, T2, T3, T4] h), [⟨jnC [T1, T2, T3, T4] X h, true, 1, true⟩, ⟨st4 T1 T2 T3 T4, g, e, false⟩], []), jnP [T1, T2, T3, T4] X h h) := by kernel_rfl
theorem e18s : evFU Tryd.prog M (ovN Tryd.prog M) [15] [] [] [] 400 Tryd.f18 [slN 0 h, ptS 1 7] [⟨X, true, 1, true⟩, ⟨st7 T1 T2 T3 T4 T5 T6 T7, g, e, false⟩] []
   = some ((.slice (some ⟨0, 0, some (jnN [T1, T2, T3, T4, T5, T6, T7] h * 1)⟩) (jnN [T1, T2, T3, T4, T5, T6, T7] h) (jnN [T1, T2, T3, T4, T5, T6, T7] h), [⟨jnC [T1, T2, T3, T4, T5, T6, T7] X h, true, 1, true⟩, ⟨st7 T1 T2 T3 T4 T5 T6 T7, g, e, false⟩], []), jnP [T1, T2, T3, T4, T5, T6, T7] X h h) := by kernel_rfl
end

def jB0 (T1 T : List UInt8) : Bool := decide (0 < T1.length) && decide (T.length ≤ 10000000000000)
def joinSum : Sum :=
  { f := 18, ro := false
    S := fun args os => match args, os with
      | [.slice none 0 0, .slice (some ⟨0, 0, some 4⟩) 4 4], [⟨[.string ⟨⟨T1⟩⟩, .string ⟨⟨T2⟩⟩, .string ⟨⟨T3⟩⟩, .string ⟨⟨T4⟩⟩], g, e, false⟩] =>
        some (slN 1 (T1 ++ T2 ++ T3 ++ T4).length, [⟨st4 T1 T2 T3 T4, g, e, false⟩], [txO (T1 ++ T2 ++ T3 ++ T4)])
      | [.slice (some ⟨0, 0, some h⟩) h1 h2, .slice (some ⟨1, 0, some 4⟩) 4 4], [⟨X, true, 1, true⟩, ⟨[.string ⟨⟨T1⟩⟩, .string ⟨⟨T2⟩⟩, .string ⟨⟨T3⟩⟩, .string ⟨⟨T4⟩⟩], g, e, false⟩] =>
        some (slN 0 (h + (T1 ++ T2 ++ T3 ++ T4).length), [⟨X ++ tx (T1 ++ T2 ++ T3 ++ T4), true, 1, true⟩, ⟨st4 T1 T2 T3 T4, g, e, false⟩], [])
      | [.slice (some ⟨0, 0, some h⟩) h1 h2, .slice (some ⟨1, 0, some 7⟩) 7 7], [⟨X, true, 1, true⟩, ⟨[.string ⟨⟨T1⟩⟩, .string ⟨⟨T2⟩⟩, .string ⟨⟨T3⟩⟩, .string ⟨⟨T4⟩⟩, .string ⟨⟨T5⟩⟩, .string ⟨⟨T6⟩⟩, .string ⟨⟨T7⟩⟩], g, e, false⟩] =>
        some (slN 0 (h + (T1 ++ T2 ++ T3 ++ T4 ++ T5 ++ T6 ++ T7).length), [⟨X ++ tx (T1 ++ T2 ++ T3 ++ T4 ++ T5 ++ T6 ++ T7), true, 1, true⟩, ⟨st7 T1 T2 T3 T4 T5 T6 T7, g, e, false⟩], [])
      | _, _ => none
    C := fun args os => match args, os with
      | [.slice none 0 0, .slice (some ⟨0, 0, some 4⟩) 4 4], [⟨[.string ⟨⟨T1⟩⟩, .string ⟨⟨T2⟩⟩, .string ⟨⟨T3⟩⟩, .string ⟨⟨T4⟩⟩], g, e, _⟩] => [(jB0 T1 (T1 ++ T2 ++ T3 ++ T4), true)]
      | [.slice (some ⟨0, 0, some h⟩) h1 h2, .slice (some ⟨1, 0, some 4⟩) 4 4], [⟨X, _, _, _⟩, ⟨[.string ⟨⟨T1⟩⟩, .string ⟨⟨T2⟩⟩, .string ⟨⟨T3⟩⟩, .string ⟨⟨T4⟩⟩], g, e, _⟩] => [(jB X h (T1 ++ T2 ++ T3 ++ T4), true), (decide (h1 = h), true), (decide (h2 = h), true)]
      | [.slice (some ⟨0, 0, some h⟩) h1 h2, .slice (some ⟨1, 0, some 7⟩) 7 7], [⟨X, _, _, _⟩, ⟨[.string ⟨⟨T1⟩⟩, .string ⟨⟨T2⟩⟩, .string ⟨⟨T3⟩⟩, .string ⟨⟨T4⟩⟩, .string ⟨⟨T5⟩⟩, .string ⟨⟨T6⟩⟩, .string ⟨⟨T7⟩⟩], g, e, _⟩] => [(jB X h (T1 ++ T2 ++ T3 ++ T4 ++ T5 ++ T6 ++ T7), true), (decide (h1 = h), true), (decide (h2 = h), true)]
      | _, _ => [] }
theorem joinSum_sound (M : Mem) : joinSum.SoundC Tryd.prog M := by
  refine sumC_sound Tryd.func18 (by kernel_rfl) (by kernel_rfl) fun args os v os' ns hs hp => ?_
  simp only [joinSum] at hs hp ⊢
  split at hs
  · rename_i T1 T2 T3 T4 g e
    cases hs
    have h := hp (jB0 T1 (T1 ++ T2 ++ T3 ++ T4), true) (List.Mem.head _)
    simp only [jB0, Bool.and_eq_true, decide_eq_true_eq, List.length_append] at h
    obtain ⟨a1, a2, a3⟩ := jn_all [T2, T3, T4] (scs T1) T1.length (T1.length * 1) (by rw [scs_eq, tx_length]) (Nat.mul_one _) (by simp; omega)
    have hr := acalls_of_evFU (ovI_ok _ _ _ _ _) nilC mix Tryd.func18 (hooksOk_nil _) (e18n M e g T1 T2 T3 T4) (held_cons (by
      rw [room_ok (by omega)]
      have : Nat.beq T1.length 0 = false := by rw [Bool.eq_false_iff]; intro he; have := Nat.eq_of_beq_eq_true he; omega
      rw [this]; rfl) a3)
    have e1 : scs T1 ++ tx [T2, T3, T4].flatten = tx (T1 ++ T2 ++ T3 ++ T4) := by rw [scs_eq, ← tx_append]; simp
    have e2 : T1.length + [T2, T3, T4].flatten.length = (T1 ++ T2 ++ T3 ++ T4).length := by simp only [List.flatten_cons, List.flatten_nil, List.length_append, List.length_nil]; omega
    rw [a1, a2, Nat.mul_one, e1, e2] at hr
    exact ⟨hr, fun h => by cases h⟩
  · rename_i h h1 h2 X T1 T2 T3 T4 g e
    cases hs
    have hb := hp (jB X h (T1 ++ T2 ++ T3 ++ T4), true) (List.Mem.head _)
    have hb1 := hp (decide (h1 = h), true) (by simp)
    have hb2 := hp (decide (h2 = h), true) (by simp)
    simp only [decide_eq_true_eq] at hb1 hb2
    subst hb1 hb2
    simp only [jB, Bool.and_eq_true, decide_eq_true_eq, List.length_append] at hb
    obtain ⟨a1, a2, a3⟩ := jn_all [T1, T2, T3, T4] X _ _ hb.1 rfl (by simp; omega)
    have hr := acalls_of_evFU (ovI_ok _ _ _ _ _) nilC mix Tryd.func18 (hooksOk_nil _) (e18f M X _ e g T1 T2 T3 T4) a3
    have e1 : [T1, T2, T3, T4].flatten = T1 ++ T2 ++ T3 ++ T4 := by simp
    rw [a1, a2, Nat.mul_one, e1] at hr
    exact ⟨hr, fun h => by cases h⟩
  · rename_i h h1 h2 X T1 T2 T3 T4 T5 T6 T7 g e
    cases hs
    have hb := hp (jB X h (T1 ++ T2 ++ T3 ++ T4 ++ T5 ++ T6 ++ T7), true) (List.Mem.head _)
    have hb1 := hp (decide (h1 = h), true) (by simp)
    have hb2 := hp (decide (h2 = h), true) (by simp)
    simp only [decide_eq_true_eq] at hb1 hb2
    subst hb1 hb2
    simp only [jB, Bool.and_eq_true, decide_eq_true_eq, List.length_append] at hb
    obtain ⟨a1, a2, a3⟩ := jn_all [T1, T2, T3, T4, T5, T6, T7] X _ _ hb.1 rfl (by simp; omega)
    have hr := acalls_of_evFU (ovI_ok _ _ _ _ _) nilC mix Tryd.func18 (hooksOk_nil _) (e18s M X _ e g T1 T2 T3 T4 T5 T6 T7) a3
    have e1 : [T1, T2, T3, T4, T5, T6, T7].flatten = T1 ++ T2 ++ T3 ++ T4 ++ T5 ++ T6 ++ T7 := by simp
    rw [a1, a2, Nat.mul_one, e1] at hr
    exact ⟨hr, fun h => by cases h⟩
  · cases hs

/-! ### sourceText as a known function -/
noncomputable def srcoSum : Sum :=
  { f := 20, ro := true
    S := fun args os => match args, os with
      | [.agg ⟨A⟩], [] => some (strOf (srcTA A), [], [])
      | _, _ => none
    C := fun args os => match args with
      | [.agg ⟨A⟩] => [(srcB A, true)]
      | _ => [] }
theorem srco20 {M : Mem} (hM : PowOk M) {v6 : Bool} {addr : Nat → Int} {port : Int} (ha : ∀ i, i < 16 → 0 ≤ addr i ∧ addr i < 256) (hp : 0 ≤ port ∧ port < 65536) :
    ACalls Tryd.prog M 20 [.agg ⟨srcCells v6 addr port⟩] [] (strOf (srcT v6 addr port)) [] [] := by
  have hn : srcN4 v6 ≤ 16 := by cases v6 <;> decide
  have hH : hexT (srcN4 v6) (srcX v6 addr port) = hexT (srcN4 v6) addr := hexT_congr fun i hi => srcX_eq i (by omega)
  have hw : IntKind.i64.wrap port = port := wrap_i64 (by omega) (by omega)
  have hI : Lib.itoa (IntKind.i64.wrap port) = Lib.itoa port := by rw [hw]
  have lH := hexT_length addr (srcN4 v6)
  have lI := itoa_len (v := port) (by omega)
  have lk : (kdT v6).length = 2 := rfl
  refine acalls_of_evFU (ovI_ok _ _ _ _ _) (consC (I27s M).c (consC (hexoSum_sound M) (consC (itoaSum_sound hM) nilC))) mix Tryd.func20 (hooksOk_nil _) (e20 M v6 addr port _ _ hH hI) ?_
  refine held_cons ?_ (held_cons (decide_eq_true ?_) (held_cons (decide_eq_true ?_) (held_cons ?_ (held_one (decide_eq_true ?_)))))
  · have hx : inR (srcN4 v6) (srcX v6 addr port) = true := inR_of fun i hi => by rw [srcX_eq i (by omega)]; exact ha i (by omega)
    have hl : (List.range (srcN4 v6)).all (fun i => ldB .u8 ⟨srcCells v6 addr port, false, 1, true⟩ 18 (1 + i)) = true := by cases v6 <;> rfl
    unfold hexObB
    rw [hl]
    show (decide (srcN4 v6 ≤ 1048576) && (true && inR (srcN4 v6) (srcX v6 addr port))) = true
    rw [hx]
    simp; omega
  · omega
  · simp only [List.length_append, List.length_cons, List.length_nil]; omega
  · rw [hw]; exact decide_eq_true (by omega)
  · simp only [List.length_append, List.length_cons, List.length_nil]; omega
theorem srcoSum_sound {M : Mem} (hM : PowOk M) : srcoSum.SoundC Tryd.prog M := by
  refine sumC_sound Tryd.func20 (by kernel_rfl) (by kernel_rfl) fun args os v os' ns hs hp => ?_
  simp only [srcoSum] at hs hp ⊢
  split at hs
  · rename_i A
    cases hs
    have h : SrcOk A := @of_decide_eq_true _ (Classical.propDecidable _) (hp (srcB A, true) (List.Mem.head _))
    have := srco20 hM (v6 := vbool (atC A 0)) h.addr h.port
    rw [← h.eq] at this
    exact ⟨this, fun _ => rfl⟩
  · cases hs
end Go.Proofs.YtfkdcpinajnbfaaDoor
