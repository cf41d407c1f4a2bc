/- The reference's TellReport: the report's text.
   Conditions: the report lies in memory, its numbers in range. -/
import Derived.Test.YtfkdcpinajnbfaaDoorSpecE
open Go.Ab Go.Num
set_option linter.unusedVariables false
set_option linter.unusedSimpArgs false
namespace Go.Proofs.YtfkdcpinajnbfaaDoor
set_option maxRecDepth 100000
/-- A row's text. -/
def rowT (o : Ob) (n : Nat) (x : Nat → Int) : List UInt8 :=
  Lib.itoa o.vd ++ [32] ++ Lib.itoa o.dh ++ (bif o.ld then [32, 49, 32] else [32, 48, 32]) ++ Lib.itoa o.cl ++
  (bif decide (0 < n) then [32] ++ srcT o.v6 o.addr o.port ++ [32] ++ hexT n x else []) ++
  (bif (!isZ32 o.chain) || (!isZ32 o.hash) then [32] ++ hexT 32 o.chain ++ [32] ++ hexT 32 o.hash else []) ++ [10]
def rowsT (M0 : Mem) : List Row → List UInt8
  | [] => []
  | r :: R => rowT r.1 r.2.len (r.2.byte M0) ++ rowsT M0 R
def headT (dh code : Int) : List UInt8 := Lib.itoa code ++ [32] ++ Lib.itoa dh ++ [10]
def repT (M0 : Mem) (R : List Row) (dh code : Int) : List UInt8 := headT dh code ++ rowsT M0 R
theorem rowsT_snoc (M0 : Mem) (r : Row) : ∀ R, rowsT M0 (R ++ [r]) = rowsT M0 R ++ rowT r.1 r.2.len (r.2.byte M0) := by
  intro R
  induction R with
  | nil => simp [rowsT]
  | cons r0 R ih => simp only [List.cons_append, rowsT, ih, List.append_assoc]

def isB8 (x : Nat → Int) (n : Nat) : Prop := ∀ i, i < n → 0 ≤ x i ∧ x i < 256
/-- An observation's numbers are in range. -/
structure ObOk (o : Ob) : Prop where
  vd : i64B o.vd = true
  dh : i64B o.dh = true
  cl : i64B o.cl = true
  addr : isB8 o.addr 16
  port : 0 ≤ o.port ∧ o.port < 65536
  chain : isB8 o.chain 32
  hash : isB8 o.hash 32

theorem atC_left {A B : List Value} {i : Nat} (h : i < A.length) : atC (A ++ B) i = atC A i := by
  unfold atC; rw [List.getElem?_append_left h]
theorem atC_right {A B : List Value} {i j : Nat} (h : A.length = i) : atC (A ++ B) (i + j) = atC B j := by
  unfold atC; rw [List.getElem?_append_right (by omega)]; congr 2; omega
theorem atC_cellsI {k : IntKind} {n i : Nat} {x : Nat → Int} (h : i < n) : atC (cellsI k n x) i = .int k (x i) := by
  simp [atC, cellsI, h]
theorem obC_chain (o : Ob) (s : Value) {i : Nat} (hi : i < 32) : atC (obC o s) (23 + i) = .int .u8 (o.chain i) := by
  have e : obC o s = ([.int .i64 o.vd, .int .i64 o.dh, .bool o.ld] ++ srcCells o.v6 o.addr o.port ++ [s, .int .i64 o.cl]) ++ (cellsI .u8 32 o.chain ++ cellsI .u8 32 o.hash) := by simp [obC, List.append_assoc]
  rw [e, atC_right (by simp [srcCells, cellsI_length]), atC_left (by rw [cellsI_length]; exact hi), atC_cellsI hi]
theorem obC_hash (o : Ob) (s : Value) {i : Nat} (hi : i < 32) : atC (obC o s) (55 + i) = .int .u8 (o.hash i) := by
  have e : obC o s = ([.int .i64 o.vd, .int .i64 o.dh, .bool o.ld] ++ srcCells o.v6 o.addr o.port ++ [s, .int .i64 o.cl] ++ cellsI .u8 32 o.chain) ++ cellsI .u8 32 o.hash := rfl
  rw [e, atC_right (by simp [srcCells, cellsI_length]), atC_cellsI hi]
theorem src_at (v6 : Bool) (addr : Nat → Int) (port : Int) {i : Nat} (hi : i < 16) : atC (srcCells v6 addr port) (1 + i) = .int .u8 (addr i) := by
  have e : srcCells v6 addr port = [.bool v6] ++ (cellsI .u8 16 addr ++ [.int .u16 port]) := by simp [srcCells]
  rw [e, atC_right (A := [.bool v6]) (i := 1) rfl, atC_left (by rw [cellsI_length]; exact hi), atC_cellsI hi]
theorem src_wd {v6 : Bool} {addr : Nat → Int} {port : Int} {i : Nat} (hi : i < 16) : wd (srcCells v6 addr port) (1 + i) = addr i := by
  unfold wd; rw [src_at v6 addr port hi]; rfl
theorem src_port {v6 : Bool} {addr : Nat → Int} {port : Int} : wd (srcCells v6 addr port) 17 = port := rfl
theorem src_ok {o : Ob} (h : ObOk o) : srcB (srcCells o.v6 o.addr o.port) = true := by
  refine @decide_eq_true _ (Classical.propDecidable _) ⟨?_, fun i hi => by rw [src_wd hi]; exact h.addr i hi, h.port⟩
  have : cellsI .u8 16 o.addr = cellsI .u8 16 (fun i => wd (srcCells o.v6 o.addr o.port) (1 + i)) := cellsI_congr fun i hi => (src_wd hi).symm
  show [Value.bool o.v6] ++ cellsI .u8 16 o.addr ++ [Value.int .u16 o.port] = [Value.bool o.v6] ++ cellsI .u8 16 (fun i => wd (srcCells o.v6 o.addr o.port) (1 + i)) ++ [Value.int .u16 o.port]
  rw [← this]
theorem src_T (o : Ob) : srcTA (srcCells o.v6 o.addr o.port) = srcT o.v6 o.addr o.port := by
  have hn : srcN4 o.v6 ≤ 16 := by cases o.v6 <;> decide
  have : hexT (srcN4 o.v6) (fun i => wd (srcCells o.v6 o.addr o.port) (1 + i)) = hexT (srcN4 o.v6) o.addr := hexT_congr fun i hi => src_wd (by omega)
  show [bif o.v6 then 54 else 52, 58] ++ hexT (srcN4 o.v6) (fun i => wd (srcCells o.v6 o.addr o.port) (1 + i)) ++ [58] ++ Lib.itoa o.port = _
  rw [this]; rfl
theorem chain_T (o : Ob) (s : Value) : hexT 32 (fun i => wd (obC o s) (23 + i)) = hexT 32 o.chain := hexT_congr fun i hi => by unfold wd; rw [obC_chain o s hi]; rfl
theorem hash_T (o : Ob) (s : Value) : hexT 32 (fun i => wd (obC o s) (55 + i)) = hexT 32 o.hash := hexT_congr fun i hi => by unfold wd; rw [obC_hash o s hi]; rfl
theorem chain_ok {o : Ob} (h : ObOk o) (s : Value) : hexObB (obC o s) false 1 87 23 32 = true := by
  have hl : (List.range 32).all (fun i => ldB .u8 ⟨obC o s, false, 1, true⟩ 87 (23 + i)) = true := List.all_eq_true.2 fun i hi => by
    have hi := List.mem_range.1 hi
    simp only [ldB, obC_length, obC_chain o s hi, decide_true, Bool.true_and]; rfl
  have hx : inR 32 (fun i => wd (obC o s) (23 + i)) = true := inR_of fun i hi => by unfold wd; rw [obC_chain o s hi]; exact h.chain i hi
  unfold hexObB
  rw [hl, hx]; rfl
theorem hash_ok {o : Ob} (h : ObOk o) (s : Value) : hexObB (obC o s) false 1 87 55 32 = true := by
  have hl : (List.range 32).all (fun i => ldB .u8 ⟨obC o s, false, 1, true⟩ 87 (55 + i)) = true := List.all_eq_true.2 fun i hi => by
    have hi := List.mem_range.1 hi
    simp only [ldB, obC_length, obC_hash o s hi, decide_true, Bool.true_and]; rfl
  have hx : inR 32 (fun i => wd (obC o s) (55 + i)) = true := inR_of fun i hi => by unfold wd; rw [obC_hash o s hi]; exact h.hash i hi
  unfold hexObB
  rw [hl, hx]; rfl

theorem scr5_T {M : Mem} {o : Ob} {B m C : Nat} : stT (scr5 M o B m C (decide (0 < m)) (!isZ32 o.chain) (!isZ32 o.hash)) = rowT o m (roN M B 0) := by
  unfold scr5 rowT
  rw [chain_T, hash_T, src_T]
  cases decide (0 < m) <;> cases isZ32 o.chain <;> cases isZ32 o.hash <;> cases o.ld <;> simp [stT, List.append_assoc]
theorem scr5_ok {M : Mem} {o : Ob} {B m C : Nat} (h : ObOk o) (hx : hexRoB M B 0 m = true) : stOk (scr5 M o B m C (decide (0 < m)) (!isZ32 o.chain) (!isZ32 o.hash)) := by
  have h1 := chain_ok h (cpS B m C)
  have h2 := hash_ok h (cpS B m C)
  have h3 := src_ok h
  have h4 := h.vd
  have h5 := h.dh
  have h6 := h.cl
  have h7 : decide ((m : Int) > 0) = decide (0 < m) := by simp
  unfold scr5
  rw [h1, h2, h3, h4, h5, h6, h7, hx]
  cases decide (0 < m) <;> cases isZ32 o.chain <;> cases isZ32 o.hash <;> cases o.ld <;> simp [stOk]
theorem srcT_len {v6 : Bool} {addr : Nat → Int} {port : Int} (hp : 0 ≤ port ∧ port < 65536) : (srcT v6 addr port).length ≤ 60 := by
  have := itoa_len (v := port) (by omega)
  have h2 := hexT_length addr (srcN4 v6)
  have h3 : srcN4 v6 ≤ 16 := by cases v6 <;> decide
  simp only [srcT, List.length_append, List.length_cons, List.length_nil]; omega
theorem rowT_len {o : Ob} {m : Nat} {x : Nat → Int} (h : ObOk o) : (rowT o m x).length ≤ 300 + 2 * m := by
  have i : ∀ v, i64B v = true → (Lib.itoa v).length ≤ 21 := fun v hv => itoa_len (of_decide_eq_true hv)
  have h1 := i _ h.vd
  have h2 := i _ h.dh
  have h3 := i _ h.cl
  have h4 := srcT_len (v6 := o.v6) (addr := o.addr) h.port
  have h5 := hexT_length x m
  have h6 := hexT_length o.chain 32
  have h7 := hexT_length o.hash 32
  unfold rowT
  cases decide (0 < m) <;> cases isZ32 o.chain <;> cases isZ32 o.hash <;> cases o.ld <;> simp only [cond_true, cond_false, Bool.not_true, Bool.not_false, Bool.or_true, Bool.or_false, Bool.true_or, Bool.false_or, List.length_append, List.length_cons, List.length_nil] <;> omega

/-- A report's copy lies in memory: its rows, their bytes as x says. -/
structure RepAt (M M0 : Mem) (q : Cp) (R : List Row) (L : List Cp) : Prop where
  len : L.length = R.length
  small : R.length ≤ 1048576
  row : ∀ (i : Nat) r p, R[i]? = some r → L[i]? = some p → RowAt M q.b (0 + i * 87) (rowC r p) ∧ hexRoB M p.b 0 r.2.len = true ∧ ObOk r.1 ∧ r.2.len ≤ 1048576 ∧ ∀ j, j < r.2.len → roN M p.b 0 j = r.2.byte M0 j

theorem rowsT_len {M0 : Mem} : ∀ {R : List Row}, (∀ r ∈ R, ObOk r.1 ∧ r.2.len ≤ 1048576) → (rowsT M0 R).length ≤ R.length * 2100000 := by
  intro R
  induction R with
  | nil => intro _; exact Nat.zero_le _
  | cons r R ih =>
    intro h
    have h1 := ih fun r' hr' => h r' (by simp [hr'])
    have h2 := rowT_len (m := r.2.len) (x := r.2.byte M0) (h r (by simp)).1
    have h3 := (h r (by simp)).2
    simp only [rowsT, List.length_append, List.length_cons]; omega

theorem headT_len {dh code : Int} (h1 : i64B dh = true) (h2 : i64B code = true) : (headT dh code).length ≤ 50 := by
  have i : ∀ v, i64B v = true → (Lib.itoa v).length ≤ 21 := fun v hv => itoa_len (of_decide_eq_true hv)
  have h3 := i _ h1
  have h4 := i _ h2
  simp only [headT, List.length_append, List.length_cons, List.length_nil]; omega

def I5 (M : Mem) (O : Org) (M0 : Mem) (q : Cp) (R : List Row) (dh code : Int) (i : Nat) (a : Go.Act) (w : World) : Prop :=
  AtV M O Tryd.f5.ntmps liveL (vsL q.b R.length q.c (repT M0 (R.take i) dh code).length i) [some (txO (repT M0 (R.take i) dh code))] [] (fun _ _ => False) a w

theorem round5 {M : Mem} {O : Org} {M0 : Mem} {q : Cp} {R : List Row} {L : List Cp} {dh code : Int} (hO : O.h = []) (hd : i64B dh = true) (hc : i64B code = true) (h : RepAt M M0 q R L) {i : Nat} (hi : i < R.length) {a : Go.Act} {w : World} (hI : I5 M O M0 q R dh code i a w) :
    loop5.wp Tryd.prog (fun e a' w' => e = .normal ∧ I5 M O M0 q R dh code (i + 1) a' w') a w := by
  have hkeep : ∀ (l : List Nat) k, k < O.h.length → l[k]? = some k := fun l k hk => by rw [hO] at hk; exact absurd hk (by simp)
  obtain ⟨r, hr⟩ : ∃ r, R[i]? = some r := ⟨_, List.getElem?_eq_getElem hi⟩
  obtain ⟨p, hp⟩ : ∃ p, L[i]? = some p := ⟨_, List.getElem?_eq_getElem (by rw [h.len]; exact hi)⟩
  obtain ⟨hrow, hhex, hob, hsm, hby⟩ := h.row i r p hr hp
  have hn := h.small
  have hsn : R.take (i + 1) = R.take i ++ [r] := by rw [List.take_add_one, hr]; rfl
  have hT : repT M0 (R.take (i + 1)) dh code = repT M0 (R.take i) dh code ++ rowT r.1 r.2.len (r.2.byte M0) := by
    rw [hsn, repT, rowsT_snoc, ← List.append_assoc]; rfl
  have hlen : (repT M0 (R.take (i + 1)) dh code).length ≤ 10000000000000 := by
    have h1 := headT_len hd hc
    have h2 : (rowsT M0 (R.take (i + 1))).length ≤ (R.take (i + 1)).length * 2100000 := rowsT_len fun r' hr' => by
      have hm := List.mem_of_mem_take hr'
      obtain ⟨j, hj, e⟩ := List.getElem_of_mem hm
      obtain ⟨p', hp'⟩ : ∃ p', L[j]? = some p' := ⟨_, List.getElem?_eq_getElem (by rw [h.len]; exact hj)⟩
      have := h.row j r' p' (by rw [← e]; exact List.getElem?_eq_getElem hj) hp'
      exact ⟨this.2.2.1, this.2.2.2.1⟩
    rw [List.length_take] at h2
    simp only [repT, List.length_append]
    have : min (i + 1) R.length ≤ 1048576 := by omega
    have := Nat.mul_le_mul_right 2100000 this
    omega
  have hsc : stT (scr5 M r.1 p.b r.2.len p.c (decide (0 < r.2.len)) (!isZ32 r.1.chain) (!isZ32 r.1.hash)) = rowT r.1 r.2.len (r.2.byte M0) := by
    rw [scr5_T]
    have : hexT r.2.len (roN M p.b 0) = hexT r.2.len (r.2.byte M0) := hexT_congr hby
    unfold rowT
    rw [this]
  refine wp_items loop5 ?_
  rw [itemsL5]
  show wpL Tryd.prog _ ([itemN loop5 0, itemN loop5 1] ++ [.block 1 b5, itemN loop5 3]) a w
  refine hI.items (ovI_ok _ _ _ _ _) nilC mix (fun c _ => hooksOk_nil c) (fun z => e5s M q.b R.length q.c _ i _ z) (held_one (decide_eq_true (by omega))) rfl (fun _ a1 w1 h1 => ?_) fun hne => absurd rfl hne
  refine wpL_cons (R := fun a' w' => AtV M O Tryd.f5.ntmps liveL (vsL q.b R.length q.c (repT M0 (R.take (i + 1)) dh code).length i) [some (txO (repT M0 (R.take (i + 1)) dh code))] [] (fun _ _ => False) a' w') (wp_block_items ?_) fun a2 w2 h2 => ?_
  · rw [itemsB5]
    show wpL Tryd.prog _ ([itemN b5 0] ++ [itemN b5 1, itemN b5 2, itemN b5 3, itemN b5 4, itemN b5 5, itemN b5 6, itemN b5 7, itemN b5 8, itemN b5 9, itemN b5 10, itemN b5 11]) a1 w1
    refine h1.items (ovI_ok _ _ _ _ _) nilC mix (fun c _ => hooksOk_nil c) (fun z => e5l M q.b R.length q.c _ p.b r.2.len p.c i _ r.1 z) (held_cons (by simp [inB]; omega) (held_one (rowB_iff.2 (by rw [Int.toNat_natCast]; exact hrow)))) rfl (fun _ a3 w3 h3 => ?_) fun hne => absurd rfl hne
    have h4 := h3.flatten (i := 1) rfl (by rw [hO]; rfl) (obC_flat r.1 r.2.len p)
    show wpL Tryd.prog _ ([itemN b5 1, itemN b5 2, itemN b5 3, itemN b5 4, itemN b5 5, itemN b5 6, itemN b5 7, itemN b5 8, itemN b5 9, itemN b5 10, itemN b5 11] ++ []) a3 w3
    refine h4.items (ovI_ok _ _ _ _ _) (consC (decSum_sound M) (consC (tellSum_sound M) (consC (hexSum_sound M) nilC))) mix (fun c _ => hooksOk_nil c) (fun z => e5r M q.b R.length q.c _ p.b r.2.len p.c i _ z (decide (0 < r.2.len)) (!isZ32 r.1.chain) (!isZ32 r.1.hash) r.1) (stP_held _ _ _ rfl (scr5_ok hob hhex) (by rw [hsc, ← hT]; exact hlen)) rfl (fun _ a5 w5 h5 => ?_) fun hne => absurd rfl hne
    rw [stC_eq, stN_eq, hsc, ← hT, Nat.mul_one] at h5
    exact ⟨rfl, h5.compact (keep := [0]) (i0 := 0) (V' := vsL q.b R.length q.c (repT M0 (R.take (i + 1)) dh code).length i) (lo := [txO (repT M0 (R.take (i + 1)) dh code)]) (compact_of (objs := [txO (repT M0 (R.take (i + 1)) dh code)]) (o := txO (repT M0 (R.take (i + 1)) dh code)) rfl rfl (by kernel_rfl) (by kernel_rfl) rfl (by rw [tx_length]; simp [repT, headT]; omega)) (hkeep _)⟩
  · show wpL Tryd.prog _ ([itemN loop5 3] ++ []) a2 w2
    refine h2.items (ovI_ok _ _ _ _ _) nilC mix (fun c _ => hooksOk_nil c) (fun z => e5i M q.b R.length q.c _ i _ z) (fun x hx => by cases hx) rfl (fun _ a6 w6 h6 => ?_) fun hne => absurd rfl hne
    rw [nextC hi hn] at h6
    exact ⟨rfl, h6⟩

theorem tell5 {M M0 : Mem} {q : Cp} {R : List Row} {L : List Cp} {dh code : Int} (hd : i64B dh = true) (hc : i64B code = true) (h : RepAt M M0 q R L) :
    ACalls Tryd.prog M 5 [.agg ⟨repL (q.sl R.length) dh code⟩] [] (slN 0 (repT M0 R dh code).length) [] [txO (repT M0 R dh code)] := by
  refine acalls_of_at Tryd.func5 body5 rfl fun O a w hO hat => ?_
  replace hO : O.h = [] := hO
  have hkeep : ∀ (l : List Nat) k, k < O.h.length → l[k]? = some k := fun l k hk => by rw [hO] at hk; exact absurd hk (by simp)
  have hh : Lib.itoa code ++ stT (scr0 dh code) = repT M0 [] dh code := by simp [scr0, stT, repT, headT, rowsT, List.append_assoc]
  have hlen := headT_len hd hc
  refine wp_items c5 ?_
  rw [items5]
  show wpL Tryd.prog _ ([itemN c5 0, itemN c5 1, itemN c5 2, itemN c5 3, itemN c5 4] ++ [.block 0 (.loop loop5), itemN c5 6, itemN c5 7]) a w
  refine hat.items (ovI_ok _ _ _ _ _) (consC (decSum_sound M) nilC) mix (fun c _ => hooksOk_nil c) (e5a M q.b R.length q.c dh code) (held_cons hc (stP_held _ _ _ rfl ⟨hd, trivial⟩ (by rw [hh]; simp only [repT, rowsT, List.append_nil]; omega))) rfl (fun _ a1 w1 h1 => ?_) fun hne => absurd rfl hne
  rw [stC_eq, stN_eq, hh, Nat.mul_one] at h1
  have h2 := h1.compact (keep := [1]) (i0 := 0) (V' := vsL q.b R.length q.c (repT M0 [] dh code).length 0) (lo := [txO (repT M0 [] dh code)]) (compact_of (objs := [txO (repT M0 [] dh code)]) (o := txO (repT M0 [] dh code)) rfl rfl (by kernel_rfl) (by kernel_rfl) rfl (by rw [tx_length]; simp [repT, headT]; omega)) (hkeep _)
  refine wpL_cons (R := fun a' w' => AtV M O Tryd.f5.ntmps [3] [slN 0 (repT M0 R dh code).length] [some (txO (repT M0 R dh code))] [] (fun _ _ => False) a' w') (wp_block (wp_loop_idx (I5 M O M0 q R dh code) R.length h2 (fun i a w hi hI => round5 hO hd hc h hi hI) fun a w hI => ?_)) fun a3 w3 h3 => ?_
  · unfold I5 at hI
    rw [List.take_length] at hI
    refine wp_items loop5 (wpL_end ?_)
    refine hI.items (ovI_ok _ _ _ _ _) nilC mix (fun c _ => hooksOk_nil c) (fun z => e5x M q.b R.length q.c _ _ _ z) (held_one (decide_eq_false (by omega))) rfl (fun he => by cases he) fun _ a4 w4 h4 => ?_
    exact ⟨by simp [AExit.to], rfl, h4⟩
  · show wpL Tryd.prog _ ([itemN c5 6, itemN c5 7] ++ []) a3 w3
    refine h3.items (ovI_ok _ _ _ _ _) nilC mix (fun c _ => hooksOk_nil c) (fun z => e5e M _ _ z) (fun x hx => by cases hx) rfl (fun he => by cases he) fun _ a4 w4 h4 => ?_
    obtain ⟨z, h4⟩ := h4
    exact ⟨.inr rfl, _, _, _, slN 0 (repT M0 R dh code).length, [], [txO (repT M0 R dh code)], h4, by kernel_rfl, rfl, rfl, rfl⟩
end Go.Proofs.YtfkdcpinajnbfaaDoor
