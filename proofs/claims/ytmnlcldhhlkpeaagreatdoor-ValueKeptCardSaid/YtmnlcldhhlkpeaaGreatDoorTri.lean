/- Of package value: Not, And, Or, Equal, each by what it answers. No condition. -/
import Derived.Test.YtmnlcldhhlkpeaaGreatDoorVal
import Derived.Laws.StructEq
import Derived.Deep.QuietTactic
import Derived.BigQuiet
namespace Go.Proofs
open Go.RowKit

theorem tryz_mixed : Tryz.prog.follows .mixedOrders = true := by kernel_rfl

theorem guard23 (op : BinOp) (x y : Operand) (k n k' n' : Int) (s s' : ByteArray) (W : World) :
    (eqGuard op 23 x y (.agg #[.int .i64 k, .int .i64 n, .string s]) (.agg #[.int .i64 k', .int .i64 n', .string s'])).run Tryz.prog W = .ok () W :=
  run_eqGuard_agg W op 23 x y _ _ (by kernel_rfl)

def eq3 (k n : Int) (s : ByteArray) (k' n' : Int) (s' : ByteArray) : Bool := (k == k') && ((n == n') && (s.toList == s'.toList))
def Val.eqB (a b : Val) : Bool := eq3 a.k a.n a.s b.k b.n b.s

theorem eqIn23 (k n : Int) (s : ByteArray) (k' n' : Int) (s' : ByteArray) (W : World) :
    (Op.equalIn 10000 23 (.agg #[.int .i64 k, .int .i64 n, .string s]) (.agg #[.int .i64 k', .int .i64 n', .string s'])).run Tryz.prog W = .ok (eq3 k n s k' n' s') W := by
  have hf : Tryz.prog.underlying 23 = some (.struct (Tryz.prog.fieldsOf 23)) := by kernel_rfl
  unfold eq3
  rw [show (10000 : Nat) = 9999 + 1 from rfl, run_equalIn_agg W 9999 23 _ _ hf (by kernel_rfl)]
  simp [go_sem, Tryz.underlying23, Tryz.underlying3, Tryz.underlying9]
  by_cases h1 : k = k' <;> by_cases h2 : n = n' <;> by_cases h3 : s.toList = s'.toList <;> simp [h1, h2, h3]

theorem eql23 (k n : Int) (s : ByteArray) (k' n' : Int) (s' : ByteArray) (W : World) :
    (binOp .eql 23 (.agg #[.int .i64 k, .int .i64 n, .string s]) (.agg #[.int .i64 k', .int .i64 n', .string s'])).run Tryz.prog W = .ok (.bool (eq3 k n s k' n' s')) W := by
  rw [run_eql_struct, eqIn23]
  simp

theorem neq23 (k n : Int) (s : ByteArray) (k' n' : Int) (s' : ByteArray) (W : World) :
    (binOp .neq 23 (.agg #[.int .i64 k, .int .i64 n, .string s]) (.agg #[.int .i64 k', .int .i64 n', .string s'])).run Tryz.prog W = .ok (.bool (!eq3 k n s k' n' s')) W := by
  rw [run_neq_struct, eqIn23]
  simp

/-- The value of a truth. -/
def boolV (b : Bool) : Val := ⟨1, if b then 1 else 0, ⟨#[]⟩⟩

theorem Tryz.boolean (b : Bool) (w : World) : Calls Tryz.prog 29 #[.bool b] w fun e w' => e = .returned (boolV b).v ∧ Below w.heap.size w w' := by
  go_enter Tryz.func29, Tryz.ntmps29
  go_wp2
  all_goals
    rename_i hb
    subst hb
    refine bodyPost_ret (v := (boolV _).v) (by simp [results, Tryz.results29, go_sem, valV, Val.v, boolV]) rfl ⟨rfl, (Below.refl _ _).alloc (Nat.le_refl _) _⟩

def Val.isB (x : Val) (b : Bool) : Bool := x.eqB (boolV b)

set_option maxRecDepth 20000 in
theorem Tryz.isV (x : Val) (b : Bool) (w : World) : Calls Tryz.prog 28 #[x.v, .bool b] w fun e w' => e = .returned (.bool (x.isB b)) ∧ Below w.heap.size w w' := by
  obtain ⟨k, n, s⟩ := x
  unfold Val.v valV
  have hg := guard23
  have he := eql23
  go_enter Tryz.func28, Tryz.ntmps28
  go_wp2_with fail
  go_region_held3 (fun w' => w'.cell? ⟨w.heap.size, 0, none⟩ = some (.int .i64 k) ∧ w'.cell? ⟨w.heap.size, 1, none⟩ = some (.int .i64 n) ∧ w'.cell? ⟨w.heap.size, 2, none⟩ = some (.string s) ∧ Kept w w')
    (first | exact held_start _ _ _ _ _ | exact held_call (by assumption) (by assumption))
    (first
    | (go_at_call 29; refine (Tryz.boolean _ _).mono ?_; rintro e w1 ⟨rfl, hb1⟩; simp only [Val.v, valV]))
  rename_i hheld
  have hk : Below w.heap.size w w1 := hheld.2.2.2.1
  go_wp2
  go_ret
  exact ⟨rfl, hk⟩

theorem isB_false (x : Val) : x.isB false = eq3 x.k x.n x.s 1 0 ⟨#[]⟩ := rfl
theorem isB_true (x : Val) : x.isB true = eq3 x.k x.n x.s 1 1 ⟨#[]⟩ := rfl

def notV (x : Val) : Val := if !x.isB true && !x.isB false then Val.zero else boolV (x.isB false)

theorem TwoIn.stored2 {w W : World} {a b : Val} (y : Val) (h : TwoIn w W a b) :
    TwoIn w (((W.setCell ⟨w.heap.size + 1, 0, none⟩ (.int .i64 y.k)).setCell ⟨w.heap.size + 1, 1, none⟩ (.int .i64 y.n)).setCell ⟨w.heap.size + 1, 2, none⟩ (.string y.s)) a y := by
  obtain ⟨h1, h2, h3, h4⟩ := h
  refine ⟨?_, ?_, ?_, by simp only [size_set]; exact h4⟩
  · rw [block_set_ne (by omega), block_set_ne (by omega), block_set_ne (by omega), h1]
  · rw [block_set (block_set (block_set h2))]
    rfl
  · refine Below.setCell (Below.setCell (Below.setCell h3 ?_ _) ?_ _) ?_ _ <;> exact Nat.le_succ _

/-- A result that lies in a box. -/
theorem res_box {fn : Func} {t b : Nat} {tmps : Array Value} {W : World} {y : Val} (hf : fn.results = #[.cell t 23]) (ht : tmps.getD t undef = .pointer (some ⟨b, 0, none⟩))
    (h : W.heap[b]? = some (.cells #[.int .i64 y.k, .int .i64 y.n, .string y.s] 23)) : (results fn tmps).run Tryz.prog W = .ok y.v W := by
  have c0 : W.cell? ⟨b, 0, none⟩ = some (.int .i64 y.k) := by simp [World.cell?, h]
  have c1 : W.cell? ⟨b, 1, none⟩ = some (.int .i64 y.n) := by simp [World.cell?, h]
  have c2 : W.cell? ⟨b, 2, none⟩ = some (.string y.s) := by simp [World.cell?, h]
  have ht2 : tmps[t]?.getD undef = .pointer (some ⟨b, 0, none⟩) := by rw [← Array.getD_eq_getD_getElem?]; exact ht
  unfold results
  rw [hf]
  simp [go_sem, ht2, c0, c1, c2, Tryz.isAgg23, Tryz.sizeOf23, Val.v, valV, asAddr]

set_option maxRecDepth 20000 in
set_option maxHeartbeats 1000000 in
theorem Tryz.notV (x : Val) (w : World) : Calls Tryz.prog 6 #[x.v] w fun e w' => e = .returned (notV x).v ∧ Below w.heap.size w w' := by
  have hT := TwoIn.start w x Val.zero
  obtain ⟨k, n, s⟩ := x
  unfold Val.v valV
  go_enter Tryz.func6, Tryz.ntmps6
  go_wp2_with (first
    | (go_at_call 28; refine (Tryz.isV ⟨k, n, s⟩ _ _).mono ?_; rintro e w1 ⟨rfl, hb1⟩; have hT1 := TwoIn.next (a := ⟨k, n, s⟩) (b := Val.zero) (by assumption) hb1; obtain ⟨⟨c0, c1, c2⟩, ⟨d0, d1, d2⟩, ⟨f0, f1, f2⟩, g0, g1, g2⟩ := hT1.cells; clear hb1)
    | (go_at_call 29; refine (Tryz.boolean _ _).mono ?_; rintro e w2 ⟨rfl, hb2⟩; have hT2 := TwoIn.next (a := ⟨k, n, s⟩) (b := Val.zero) (by assumption) hb2; obtain ⟨⟨c0, c1, c2⟩, ⟨d0, d1, d2⟩, ⟨f0, f1, f2⟩, g0, g1, g2⟩ := hT2.cells; simp only [Val.v, valV]; clear hb2))
  · have hS := TwoIn.stored2 (boolV (Val.isB ⟨k, n, s⟩ false)) hT2
    exact bodyPost_ret (res_box Tryz.results6 rfl hS.2.1) rfl ⟨by simp [Proofs.notV, *, Val.v, valV], hS.2.2.1⟩
  · exact bodyPost_ret (res_box Tryz.results6 rfl (TwoIn.stored2 Val.zero hT1).2.1) rfl ⟨by simp [Proofs.notV, *, Val.v, valV], (TwoIn.stored2 Val.zero hT1).2.2.1⟩
  · have hS := TwoIn.stored2 (boolV (Val.isB ⟨k, n, s⟩ false)) hT2
    exact bodyPost_ret (res_box Tryz.results6 rfl hS.2.1) rfl ⟨by simp [Proofs.notV, *, Val.v, valV], hS.2.2.1⟩

theorem ThreeIn.stored3 {w W : World} {a b c : Val} (y : Val) (h : ThreeIn w W a b c) :
    ThreeIn w (((W.setCell ⟨w.heap.size + 2, 0, none⟩ (.int .i64 y.k)).setCell ⟨w.heap.size + 2, 1, none⟩ (.int .i64 y.n)).setCell ⟨w.heap.size + 2, 2, none⟩ (.string y.s)) a b y := by
  obtain ⟨⟨h1, h2, h3, h4⟩, h5, h6⟩ := h
  refine ⟨⟨?_, ?_, ?_, by simp only [size_set]; exact h4⟩, ?_, by simp only [size_set]; exact h6⟩
  · rw [block_set_ne (by omega), block_set_ne (by omega), block_set_ne (by omega), h1]
  · rw [block_set_ne (by omega), block_set_ne (by omega), block_set_ne (by omega), h2]
  · refine Below.setCell (Below.setCell (Below.setCell h3 ?_ _) ?_ _) ?_ _ <;> (show w.heap.size ≤ w.heap.size + 2; omega)
  · rw [block_set (block_set (block_set h5))]
    rfl

def andV (a b : Val) : Val := if a.isB false || b.isB false then boolV false else if a.isB true && b.isB true then boolV true else Val.zero

set_option maxRecDepth 20000 in
set_option maxHeartbeats 2000000 in
theorem Tryz.andV (a b : Val) (w : World) : Calls Tryz.prog 7 #[a.v, b.v] w fun e w' => e = .returned (andV a b).v ∧ Below w.heap.size w w' := by
  have hT := ThreeIn.start w a b Val.zero
  obtain ⟨k, n, s⟩ := a
  obtain ⟨k', n', s'⟩ := b
  unfold Val.v valV
  go_enter Tryz.func7, Tryz.ntmps7
  go_wp2_with (first
    | (go_at_call_of 28 (Value.agg #[.int .i64 k, .int .i64 n, .string s]); refine (Tryz.isV ⟨k, n, s⟩ _ _).mono ?_; rintro e w1 ⟨rfl, hb1⟩; have hT1 := ThreeIn.next (a := ⟨k, n, s⟩) (b := ⟨k', n', s'⟩) (c := Val.zero) (by assumption) hb1; obtain ⟨⟨c0, c1, c2⟩, ⟨d0, d1, d2⟩, ⟨f0, f1, f2⟩, g0, g1, g2⟩ := hT1.1.cells; obtain ⟨⟨x0, x1, x2⟩, y0, y1, y2⟩ := hT1.third; clear hb1)
    | (go_at_call 28; refine (Tryz.isV ⟨k', n', s'⟩ _ _).mono ?_; rintro e w1 ⟨rfl, hb1⟩; have hT1 := ThreeIn.next (a := ⟨k, n, s⟩) (b := ⟨k', n', s'⟩) (c := Val.zero) (by assumption) hb1; obtain ⟨⟨c0, c1, c2⟩, ⟨d0, d1, d2⟩, ⟨f0, f1, f2⟩, g0, g1, g2⟩ := hT1.1.cells; obtain ⟨⟨x0, x1, x2⟩, y0, y1, y2⟩ := hT1.third; clear hb1)
    | (go_at_call 29; refine (Tryz.boolean _ _).mono ?_; rintro e w2 ⟨rfl, hb2⟩; have hT2 := ThreeIn.next (a := ⟨k, n, s⟩) (b := ⟨k', n', s'⟩) (c := Val.zero) (by assumption) hb2; obtain ⟨⟨c0, c1, c2⟩, ⟨d0, d1, d2⟩, ⟨f0, f1, f2⟩, g0, g1, g2⟩ := hT2.1.cells; obtain ⟨⟨x0, x1, x2⟩, y0, y1, y2⟩ := hT2.third; simp only [Val.v, valV]; clear hb2))
  · exact bodyPost_ret (res_box Tryz.results7 rfl (ThreeIn.stored3 (boolV false) hT2).2.1) rfl ⟨by simp [Proofs.andV, *, Val.v, valV], (ThreeIn.stored3 (boolV false) hT2).1.2.2.1⟩
  · exact bodyPost_ret (res_box Tryz.results7 rfl (ThreeIn.stored3 (boolV false) hT2).2.1) rfl ⟨by simp [Proofs.andV, *, Val.v, valV], (ThreeIn.stored3 (boolV false) hT2).1.2.2.1⟩
  · exact bodyPost_ret (res_box Tryz.results7 rfl (ThreeIn.stored3 (boolV true) hT2).2.1) rfl ⟨by simp [Proofs.andV, *, Val.v, valV], (ThreeIn.stored3 (boolV true) hT2).1.2.2.1⟩
  · exact bodyPost_ret (res_box Tryz.results7 rfl (ThreeIn.stored3 Val.zero hT1).2.1) rfl ⟨by simp [Proofs.andV, *, Val.v, valV], (ThreeIn.stored3 Val.zero hT1).1.2.2.1⟩
  · exact bodyPost_ret (res_box Tryz.results7 rfl (ThreeIn.stored3 Val.zero hT1).2.1) rfl ⟨by simp [Proofs.andV, *, Val.v, valV], (ThreeIn.stored3 Val.zero hT1).1.2.2.1⟩

def orV (a b : Val) : Val := notV (andV (notV a) (notV b))

set_option maxRecDepth 20000 in
set_option maxHeartbeats 2000000 in
theorem Tryz.orV (a b : Val) (w : World) : Calls Tryz.prog 8 #[a.v, b.v] w fun e w' => e = .returned (orV a b).v ∧ Below w.heap.size w w' := by
  have hT := (ThreeIn.start w a b Val.zero).drew
  obtain ⟨k, n, s⟩ := a
  obtain ⟨k', n', s'⟩ := b
  unfold Val.v valV
  go_enter Tryz.func8, Tryz.ntmps8
  go_wp2_with fail
  go_region_with (first
    | (go_at_call_of 6 (Value.agg #[.int .i64 k, .int .i64 n, .string s]); refine (Tryz.notV ⟨k, n, s⟩ _).mono ?_; rintro e w1 ⟨rfl, hb1⟩; have hT1 := ThreeIn.next (a := ⟨k, n, s⟩) (b := ⟨k', n', s'⟩) (c := Val.zero) (by assumption) hb1; obtain ⟨⟨c0, c1, c2⟩, ⟨d0, d1, d2⟩, ⟨f0, f1, f2⟩, g0, g1, g2⟩ := hT1.1.cells; obtain ⟨⟨x0, x1, x2⟩, y0, y1, y2⟩ := hT1.third; clear hb1; simp only [Val.v, valV])
    | (go_at_call_of 6 (Value.agg #[.int .i64 k', .int .i64 n', .string s']); refine (Tryz.notV ⟨k', n', s'⟩ _).mono ?_; rintro e w1 ⟨rfl, hb1⟩; have hT1 := ThreeIn.next (a := ⟨k, n, s⟩) (b := ⟨k', n', s'⟩) (c := Val.zero) (by assumption) hb1; obtain ⟨⟨c0, c1, c2⟩, ⟨d0, d1, d2⟩, ⟨f0, f1, f2⟩, g0, g1, g2⟩ := hT1.1.cells; obtain ⟨⟨x0, x1, x2⟩, y0, y1, y2⟩ := hT1.third; clear hb1; simp only [Val.v, valV])
    | (go_at_call 7; refine (Tryz.andV (Proofs.notV ⟨k, n, s⟩) (Proofs.notV ⟨k', n', s'⟩) _).mono ?_; rintro e w1 ⟨rfl, hb1⟩; have hT1 := ThreeIn.next (a := ⟨k, n, s⟩) (b := ⟨k', n', s'⟩) (c := Val.zero) (by assumption) hb1; obtain ⟨⟨c0, c1, c2⟩, ⟨d0, d1, d2⟩, ⟨f0, f1, f2⟩, g0, g1, g2⟩ := hT1.1.cells; obtain ⟨⟨x0, x1, x2⟩, y0, y1, y2⟩ := hT1.third; clear hb1; simp only [Val.v, valV])
    | (go_at_call 6; refine (Tryz.notV (Proofs.andV (Proofs.notV ⟨k, n, s⟩) (Proofs.notV ⟨k', n', s'⟩)) _).mono ?_; rintro e w1 ⟨rfl, hb1⟩; have hT1 := ThreeIn.next (a := ⟨k, n, s⟩) (b := ⟨k', n', s'⟩) (c := Val.zero) (by assumption) hb1; obtain ⟨⟨c0, c1, c2⟩, ⟨d0, d1, d2⟩, ⟨f0, f1, f2⟩, g0, g1, g2⟩ := hT1.1.cells; obtain ⟨⟨x0, x1, x2⟩, y0, y1, y2⟩ := hT1.third; clear hb1; simp only [Val.v, valV]))
  all_goals
    have hS := ThreeIn.stored3 (Proofs.orV ⟨k, n, s⟩ ⟨k', n', s'⟩) hT1
    go_wp2
    exact bodyPost_ret (res_box Tryz.results8 rfl hS.2.1) rfl ⟨rfl, hS.1.2.2.1⟩

structure Kept2 (w w' : World) : Prop where
  below : Below w.heap.size w w'
  size : w.heap.size + 1 < w'.heap.size

theorem held2_start {w w' : World} {k n k' n' : Int} {s s' : ByteArray} (h : TwoIn w w' ⟨k, n, s⟩ ⟨k', n', s'⟩) :
    w'.cell? ⟨w.heap.size, 0, none⟩ = some (.int .i64 k) ∧ w'.cell? ⟨w.heap.size, 1, none⟩ = some (.int .i64 n) ∧ w'.cell? ⟨w.heap.size, 2, none⟩ = some (.string s) ∧ w'.cell? ⟨w.heap.size + 1, 0, none⟩ = some (.int .i64 k') ∧ w'.cell? ⟨w.heap.size + 1, 1, none⟩ = some (.int .i64 n') ∧ w'.cell? ⟨w.heap.size + 1, 2, none⟩ = some (.string s') ∧ Kept2 w w' := by
  obtain ⟨⟨c0, c1, c2⟩, ⟨d0, d1, d2⟩, _⟩ := h.cells
  exact ⟨c0, c1, c2, d0, d1, d2, ⟨h.2.2.1, h.2.2.2⟩⟩

theorem held2_call {w w1 w2 : World} {a b c d e f : Value}
    (h : w1.cell? ⟨w.heap.size, 0, none⟩ = some a ∧ w1.cell? ⟨w.heap.size, 1, none⟩ = some b ∧ w1.cell? ⟨w.heap.size, 2, none⟩ = some c ∧ w1.cell? ⟨w.heap.size + 1, 0, none⟩ = some d ∧ w1.cell? ⟨w.heap.size + 1, 1, none⟩ = some e ∧ w1.cell? ⟨w.heap.size + 1, 2, none⟩ = some f ∧ Kept2 w w1)
    (hb : Below w1.heap.size w1 w2) :
    w2.cell? ⟨w.heap.size, 0, none⟩ = some a ∧ w2.cell? ⟨w.heap.size, 1, none⟩ = some b ∧ w2.cell? ⟨w.heap.size, 2, none⟩ = some c ∧ w2.cell? ⟨w.heap.size + 1, 0, none⟩ = some d ∧ w2.cell? ⟨w.heap.size + 1, 1, none⟩ = some e ∧ w2.cell? ⟨w.heap.size + 1, 2, none⟩ = some f ∧ Kept2 w w2 := by
  obtain ⟨h1, h2, h3, h4, h5, h6, hk⟩ := h
  have hz := hk.size
  have hs := hb.size
  have p1 : w.heap.size < w1.heap.size := by omega
  exact ⟨(hb.cell p1).trans h1, (hb.cell p1).trans h2, (hb.cell p1).trans h3, (hb.cell hz).trans h4, (hb.cell hz).trans h5, (hb.cell hz).trans h6, ⟨hk.below.trans (hb.mono (by omega)), by omega⟩⟩

def comparableB (a b : Val) : Bool := (a.plain.k != 0) && (a.plain.k == b.plain.k)

theorem field0 (k n : Int) (s : ByteArray) (W : World) : (Instr.field 23 (.agg #[.int .i64 k, .int .i64 n, .string s]) 0).run Tryz.prog W = .ok (.int .i64 k) W := by
  simp [go_sem, Instr.field, asAgg, Tryz.isAgg3]

set_option maxRecDepth 20000 in
set_option maxHeartbeats 2000000 in
theorem Tryz.comparable (a b : Val) (ha : a.s.size ≤ 9223372036854775807) (hb : b.s.size ≤ 9223372036854775807) (w : World) : Calls Tryz.prog 30 #[a.v, b.v] w fun e w' => e = .returned (.bool (comparableB a b)) ∧ Below w.heap.size w w' := by
  have hT := (TwoIn.start w a b).drew
  have hf := field0
  obtain ⟨k, n, s⟩ := a
  obtain ⟨k', n', s'⟩ := b
  unfold Val.v valV
  go_enter Tryz.func30, Tryz.ntmps30
  go_wp2_with fail
  by_cases h0 : (Val.plain ⟨k, n, s⟩).k = 0
  · go_region_with (first
      | (go_at_call_of 32 (Value.agg #[.int .i64 k, .int .i64 n, .string s]); refine (Tryz.plainV k n s ha _).mono ?_; rintro e w1 ⟨rfl, hb1⟩; have hT1 := TwoIn.next (a := ⟨k, n, s⟩) (b := ⟨k', n', s'⟩) (by assumption) hb1; obtain ⟨⟨c0, c1, c2⟩, ⟨d0, d1, d2⟩, ⟨f0, f1, f2⟩, g0, g1, g2⟩ := hT1.cells; clear hb1; simp only [Val.v, valV])
      | (go_at_call_of 32 (Value.agg #[.int .i64 k', .int .i64 n', .string s']); refine (Tryz.plainV k' n' s' hb _).mono ?_; rintro e w1 ⟨rfl, hb1⟩; have hT1 := TwoIn.next (a := ⟨k, n, s⟩) (b := ⟨k', n', s'⟩) (by assumption) hb1; obtain ⟨⟨c0, c1, c2⟩, ⟨d0, d1, d2⟩, ⟨f0, f1, f2⟩, g0, g1, g2⟩ := hT1.cells; clear hb1; simp only [Val.v, valV]))
    all_goals
      go_wp2
      go_ret
      exact ⟨by simp [comparableB, h0, Act.put], hT1.2.2.1⟩
  · have hb0 : ((Val.plain ⟨k, n, s⟩).k != 0) = true := by simpa using h0
    clear h0
    go_region_held3 (fun w' => w'.cell? ⟨w.heap.size, 0, none⟩ = some (.int .i64 k) ∧ w'.cell? ⟨w.heap.size, 1, none⟩ = some (.int .i64 n) ∧ w'.cell? ⟨w.heap.size, 2, none⟩ = some (.string s) ∧ w'.cell? ⟨w.heap.size + 1, 0, none⟩ = some (.int .i64 k') ∧ w'.cell? ⟨w.heap.size + 1, 1, none⟩ = some (.int .i64 n') ∧ w'.cell? ⟨w.heap.size + 1, 2, none⟩ = some (.string s') ∧ Kept2 w w')
      (first | exact held2_start hT | exact held2_call (by assumption) (by assumption))
      (first
      | (go_at_call_of 32 (Value.agg #[.int .i64 k, .int .i64 n, .string s]); refine (Tryz.plainV k n s ha _).mono ?_; rintro e w1 ⟨rfl, hb1⟩; simp only [Val.v, valV])
      | (go_at_call_of 32 (Value.agg #[.int .i64 k', .int .i64 n', .string s']); refine (Tryz.plainV k' n' s' hb _).mono ?_; rintro e w1 ⟨rfl, hb1⟩; simp only [Val.v, valV]))
    rename_i hheld
    have hk := hheld.2.2.2.2.2.2.below
    go_wp2
    go_ret
    exact ⟨by simp [comparableB, hb0], hk⟩

def equalV (a b : Val) : Val := if !comparableB a b then Val.zero else boolV (a.eqB b)

set_option maxRecDepth 20000 in
set_option maxHeartbeats 2000000 in
theorem Tryz.equalV (a b : Val) (ha : a.s.size ≤ 9223372036854775807) (hb : b.s.size ≤ 9223372036854775807) (w : World) : Calls Tryz.prog 9 #[a.v, b.v] w fun e w' => e = .returned (equalV a b).v ∧ Below w.heap.size w w' := by
  have hT := ThreeIn.start w a b Val.zero
  have hg := guard23
  have he := eql23
  obtain ⟨k, n, s⟩ := a
  obtain ⟨k', n', s'⟩ := b
  unfold Val.v valV
  go_enter Tryz.func9, Tryz.ntmps9
  go_wp2_with (first
    | (go_at_call 30; refine (Tryz.comparable ⟨k, n, s⟩ ⟨k', n', s'⟩ ha hb _).mono ?_; rintro e w1 ⟨rfl, hb1⟩; have hT1 := ThreeIn.next (a := ⟨k, n, s⟩) (b := ⟨k', n', s'⟩) (c := Val.zero) (by assumption) hb1; obtain ⟨⟨c0, c1, c2⟩, ⟨d0, d1, d2⟩, ⟨f0, f1, f2⟩, g0, g1, g2⟩ := hT1.1.cells; obtain ⟨⟨x0, x1, x2⟩, y0, y1, y2⟩ := hT1.third; clear hb1)
    | (go_at_call 29; refine (Tryz.boolean _ _).mono ?_; rintro e w1 ⟨rfl, hb1⟩; have hT1 := ThreeIn.next (a := ⟨k, n, s⟩) (b := ⟨k', n', s'⟩) (c := Val.zero) (by assumption) hb1; obtain ⟨⟨c0, c1, c2⟩, ⟨d0, d1, d2⟩, ⟨f0, f1, f2⟩, g0, g1, g2⟩ := hT1.1.cells; obtain ⟨⟨x0, x1, x2⟩, y0, y1, y2⟩ := hT1.third; simp only [Val.v, valV]; clear hb1))
  · have hS := ThreeIn.stored3 Val.zero hT1
    exact bodyPost_ret (res_box Tryz.results9 rfl hS.2.1) rfl ⟨by simp [Proofs.equalV, *, Val.v, valV], hS.1.2.2.1⟩
  · have hS := ThreeIn.stored3 (boolV (Val.eqB ⟨k, n, s⟩ ⟨k', n', s'⟩)) hT1
    exact bodyPost_ret (res_box Tryz.results9 rfl hS.2.1) rfl ⟨by simp [Proofs.equalV, *, Val.v, valV], hS.1.2.2.1⟩

/-! ### What follows from it -/

/-- Three-valued. -/
def tri (x : Val) : Option Bool := if x.isB true then some true else if x.isB false then some false else none
def triV : Option Bool → Val
  | none => Val.zero
  | some b => boolV b

theorem tri_triV (o : Option Bool) : tri (triV o) = o := by
  cases o with
  | none => decide +revert
  | some b => cases b <;> simp [tri, triV, isB_true, isB_false, eq3, boolV]

theorem notV_tri (x : Val) : notV x = triV ((tri x).map not) := by
  unfold notV tri
  have hx : x.isB true = true → x.isB false = false := fun h => by
    rw [isB_true] at h
    rw [isB_false]
    unfold eq3 at *
    simp only [Bool.and_eq_true, beq_iff_eq] at h
    simp [h.2.1]
  cases h1 : x.isB true with
  | true => simp [hx h1, triV]
  | false => cases h2 : x.isB false <;> simp [triV]

theorem andV_tri (a b : Val) : andV a b = triV (if tri a = some false ∨ tri b = some false then some false else if tri a = some true ∧ tri b = some true then some true else none) := by
  have hx : ∀ x : Val, x.isB true = true → x.isB false = false := fun x h => by
    rw [isB_true] at h
    rw [isB_false]
    unfold eq3 at *
    simp only [Bool.and_eq_true, beq_iff_eq] at h
    simp [h.2.1]
  unfold andV tri
  have ha := hx a
  have hb := hx b
  cases h1 : a.isB true <;> cases h2 : a.isB false <;> cases h3 : b.isB true <;> cases h4 : b.isB false <;> simp_all [triV]

theorem not_or (a b : Val) : notV (andV a b) = orV (notV a) (notV b) := by
  unfold orV
  rw [notV_tri (andV a b), notV_tri (andV _ _), andV_tri a b, andV_tri (notV (notV a)), tri_triV, tri_triV, notV_tri (notV a), notV_tri (notV b), tri_triV, tri_triV, notV_tri a, notV_tri b, tri_triV, tri_triV]
  cases tri a with
  | none => cases tri b with
    | none => rfl
    | some y => cases y <;> rfl
  | some x => cases tri b with
    | none => cases x <;> rfl
    | some y => cases x <;> cases y <;> rfl

theorem eqB_comm (a b : Val) : a.eqB b = b.eqB a := by
  unfold Val.eqB eq3
  rw [Bool.beq_comm (a := a.k), Bool.beq_comm (a := a.n), Bool.beq_comm (a := a.s.toList)]

theorem eqB_refl (a : Val) : a.eqB a = true := by
  unfold Val.eqB eq3
  simp

theorem equalV_comm (a b : Val) : equalV a b = equalV b a := by
  unfold equalV comparableB
  rw [eqB_comm a b]
  by_cases h : a.plain.k = b.plain.k
  · rw [h]
  · have h1 : (a.plain.k == b.plain.k) = false := by simpa using h
    have h2 : (b.plain.k == a.plain.k) = false := by simpa using fun e => h e.symm
    simp [h1, h2]

end Go.Proofs
