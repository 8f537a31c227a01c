/- ValueLaws: the law walked. -/
import Derived.Test.YtmnlcldhhlkpeaaGreatDoorPlain
import Derived.Deep.CutRange
import Derived.Deep.RegionHeld3
namespace Go.Proofs
open Go.RowKit

/-- A box that the call has made. -/
structure Box (w W : World) (g : Nat) (v : Val) : Prop where
  at' : W.heap[g]? = some (.cells #[.int .i64 v.k, .int .i64 v.n, .string v.s] 23)
  old : w.heap.size + 1 < g
  lt : g < W.heap.size

theorem Box.next {w W W' : World} {g : Nat} {v : Val} (h : Box w W g v) (hb : Below W.heap.size W W') : Box w W' g v :=
  ⟨(hb.block _ h.lt).trans h.at', h.old, Nat.lt_of_lt_of_le h.lt hb.size⟩

theorem Box.cells {w W : World} {g : Nat} {v : Val} (h : Box w W g v) :
    (W.cell? ⟨g, 0, none⟩ = some (.int .i64 v.k) ∧ W.cell? ⟨g, 1, none⟩ = some (.int .i64 v.n) ∧ W.cell? ⟨g, 2, none⟩ = some (.string v.s)) ∧
    (W.frozen? ⟨g, 0, none⟩ = false ∧ W.frozen? ⟨g, 1, none⟩ = false ∧ W.frozen? ⟨g, 2, none⟩ = false) := by
  refine ⟨⟨?_, ?_, ?_⟩, ?_, ?_, ?_⟩ <;> simp [World.cell?, World.frozen?, h.at']

theorem Box.drew {w W : World} {g : Nat} {v : Val} (h : Box w W g v) : Box w W.drew g v := ⟨h.at', h.old, h.lt⟩

theorem TwoIn.alloc {w W : World} {a b : Val} (h : TwoIn w W a b) (o : Obj) : TwoIn w (W.alloc o) a b :=
  h.next ((Below.refl _ _).alloc (Nat.le_refl _) o)

theorem Box.alloc {w W : World} {g : Nat} {v : Val} (h : Box w W g v) (o : Obj) : Box w (W.alloc o) g v :=
  h.next ((Below.refl _ _).alloc (Nat.le_refl _) o)

theorem Box.new {w W : World} {a b : Val} (h : TwoIn w W a b) (v : Val) : Box w (W.alloc (.cells #[.int .i64 v.k, .int .i64 v.n, .string v.s] 23)) W.heap.size v :=
  ⟨heap_alloc_new W _, h.2.2.2, by unfold World.alloc; simp⟩

def set3 (W : World) (g : Nat) (x : Val) : World := ((W.setCell ⟨g, 0, none⟩ (.int .i64 x.k)).setCell ⟨g, 1, none⟩ (.int .i64 x.n)).setCell ⟨g, 2, none⟩ (.string x.s)

theorem set3_ne {W : World} {g g' : Nat} (x : Val) (h : g ≠ g') : (set3 W g x).heap[g']? = W.heap[g']? := by
  unfold set3
  rw [block_set_ne h, block_set_ne h, block_set_ne h]

theorem set3_size {W : World} {g : Nat} (x : Val) : (set3 W g x).heap.size = W.heap.size := by
  unfold set3
  simp only [size_set]

theorem TwoIn.other {w W : World} {a b : Val} {g : Nat} (x : Val) (h : TwoIn w W a b) (hg : w.heap.size + 1 < g) : TwoIn w (set3 W g x) a b := by
  obtain ⟨h1, h2, h3, h4⟩ := h
  refine ⟨(set3_ne x (by omega)).trans h1, (set3_ne x (by omega)).trans h2, ?_, by rw [set3_size]; exact h4⟩
  have hw : w.heap.size ≤ g := by omega
  exact Below.setCell (Below.setCell (Below.setCell h3 hw _) hw _) hw _

theorem Box.other {w W : World} {v : Val} {g g' : Nat} (x : Val) (h : Box w W g' v) (hg : g ≠ g') : Box w (set3 W g x) g' v :=
  ⟨(set3_ne x hg).trans h.at', h.old, by rw [set3_size]; exact h.lt⟩

theorem Box.set {w W : World} {v : Val} {g : Nat} (x : Val) (h : Box w W g v) : Box w (set3 W g x) g x := by
  refine ⟨?_, h.old, by rw [set3_size]; exact h.lt⟩
  unfold set3
  rw [block_set (block_set (block_set h.at'))]
  rfl

theorem box_made {w W : World} {a b v : Val} {g : Nat} (x : Val) (h : TwoIn w W a b) (h5 : Box w W g v) :
    ∃ g6 : Nat, Value.pointer (some ⟨W.heap.size, 0, none⟩) = .pointer (some ⟨g6, 0, none⟩) ∧ TwoIn w (W.alloc (.cells #[.int .i64 x.k, .int .i64 x.n, .string x.s] 23)) a b ∧
      Box w (W.alloc (.cells #[.int .i64 x.k, .int .i64 x.n, .string x.s] 23)) g v ∧ Box w (W.alloc (.cells #[.int .i64 x.k, .int .i64 x.n, .string x.s] 23)) g6 x :=
  ⟨_, rfl, h.alloc _, h5.alloc _, Box.new h x⟩

theorem box_laid {w W W' : World} {a b v u y : Val} {g : Nat} (x : Val) (h : TwoIn w W a b) (h5 : Box w W g v) (h0 : Box w W' g u) (h6 : Box w W W'.heap.size y) :
    ∃ g6 : Nat, Value.pointer (some ⟨W'.heap.size, 0, none⟩) = .pointer (some ⟨g6, 0, none⟩) ∧ TwoIn w (set3 W W'.heap.size x) a b ∧
      Box w (set3 W W'.heap.size x) g v ∧ Box w (set3 W W'.heap.size x) g6 x :=
  ⟨_, rfl, h.other x h6.old, h5.other x (Nat.ne_of_gt h0.lt), h6.set x⟩

theorem Tryz.notU (x : Val) (w : World) : Calls Tryz.prog 6 #[.agg #[.int .i64 x.k, .int .i64 x.n, .string x.s]] w fun e w' => e = .returned (.agg #[.int .i64 (Proofs.notV x).k, .int .i64 (Proofs.notV x).n, .string (Proofs.notV x).s]) ∧ Below w.heap.size w w' :=
  Tryz.notV x w

theorem Tryz.orU (a b : Val) (w : World) : Calls Tryz.prog 8 #[.agg #[.int .i64 a.k, .int .i64 a.n, .string a.s], .agg #[.int .i64 b.k, .int .i64 b.n, .string b.s]] w fun e w' =>
    e = .returned (.agg #[.int .i64 (Proofs.orV a b).k, .int .i64 (Proofs.orV a b).n, .string (Proofs.orV a b).s]) ∧ Below w.heap.size w w' :=
  Tryz.orV a b w

/-- The arguments' boxes and those of the two first results. -/
structure Kept4 (w W : World) (a b N : Val) (g5 g6 : Nat) : Prop where
  two : TwoIn w W a b
  fst : Box w W g5 N
  snd : Box w W g6 N

theorem Kept4.next {w W W' : World} {a b N : Val} {g5 g6 : Nat} (h : Kept4 w W a b N g5 g6) (hb : Below W.heap.size W W') : Kept4 w W' a b N g5 g6 :=
  ⟨h.two.next hb, h.fst.next hb, h.snd.next hb⟩

theorem Kept4.held {w W : World} {k n k' n' : Int} {s s' : ByteArray} {N : Val} {g5 g6 : Nat} (h : Kept4 w W ⟨k, n, s⟩ ⟨k', n', s'⟩ N g5 g6) :
    W.cell? ⟨w.heap.size, 0, none⟩ = some (.int .i64 k) ∧ W.cell? ⟨w.heap.size, 1, none⟩ = some (.int .i64 n) ∧ W.cell? ⟨w.heap.size, 2, none⟩ = some (.string s) ∧ W.cell? ⟨w.heap.size + 1, 0, none⟩ = some (.int .i64 k') ∧ W.cell? ⟨w.heap.size + 1, 1, none⟩ = some (.int .i64 n') ∧ W.cell? ⟨w.heap.size + 1, 2, none⟩ = some (.string s') ∧
      W.cell? ⟨g5, 0, none⟩ = some (.int .i64 N.k) ∧ W.cell? ⟨g5, 1, none⟩ = some (.int .i64 N.n) ∧ W.cell? ⟨g5, 2, none⟩ = some (.string N.s) ∧ W.cell? ⟨g6, 0, none⟩ = some (.int .i64 N.k) ∧ W.cell? ⟨g6, 1, none⟩ = some (.int .i64 N.n) ∧ W.cell? ⟨g6, 2, none⟩ = some (.string N.s) ∧ Kept4 w W ⟨k, n, s⟩ ⟨k', n', s'⟩ N g5 g6 := by
  obtain ⟨⟨c0, c1, c2⟩, ⟨d0, d1, d2⟩, _⟩ := h.two.cells
  obtain ⟨⟨e0, e1, e2⟩, _⟩ := h.fst.cells
  obtain ⟨⟨f0, f1, f2⟩, _⟩ := h.snd.cells
  exact ⟨c0, c1, c2, d0, d1, d2, e0, e1, e2, f0, f1, f2, h⟩

theorem held4_call {w w1 w2 : World} {k n k' n' : Int} {s s' : ByteArray} {N : Val} {g5 g6 : Nat} {c1 c2 c3 c4 c5 c6 c7 c8 c9 c10 c11 c12 : Prop}
    (h : c1 ∧ c2 ∧ c3 ∧ c4 ∧ c5 ∧ c6 ∧ c7 ∧ c8 ∧ c9 ∧ c10 ∧ c11 ∧ c12 ∧ Kept4 w w1 ⟨k, n, s⟩ ⟨k', n', s'⟩ N g5 g6) (hb : Below w1.heap.size w1 w2) :
    w2.cell? ⟨w.heap.size, 0, none⟩ = some (.int .i64 k) ∧ w2.cell? ⟨w.heap.size, 1, none⟩ = some (.int .i64 n) ∧ w2.cell? ⟨w.heap.size, 2, none⟩ = some (.string s) ∧ w2.cell? ⟨w.heap.size + 1, 0, none⟩ = some (.int .i64 k') ∧ w2.cell? ⟨w.heap.size + 1, 1, none⟩ = some (.int .i64 n') ∧ w2.cell? ⟨w.heap.size + 1, 2, none⟩ = some (.string s') ∧
      w2.cell? ⟨g5, 0, none⟩ = some (.int .i64 N.k) ∧ w2.cell? ⟨g5, 1, none⟩ = some (.int .i64 N.n) ∧ w2.cell? ⟨g5, 2, none⟩ = some (.string N.s) ∧ w2.cell? ⟨g6, 0, none⟩ = some (.int .i64 N.k) ∧ w2.cell? ⟨g6, 1, none⟩ = some (.int .i64 N.n) ∧ w2.cell? ⟨g6, 2, none⟩ = some (.string N.s) ∧ Kept4 w w2 ⟨k, n, s⟩ ⟨k', n', s'⟩ N g5 g6 :=
  (h.2.2.2.2.2.2.2.2.2.2.2.2.next hb).held

theorem eq3_self (k n : Int) (s : ByteArray) : eq3 k n s k n s = true := by
  simp [eq3]

theorem below4 {w W : World} {a b N : Val} {g5 g6 : Nat} (h : Kept4 w W a b N g5 g6) : Below w.heap.size w W := h.two.2.2.1

theorem neq23_self (x : Val) (W : World) : (binOp .neq 23 (.agg #[.int .i64 x.k, .int .i64 x.n, .string x.s]) (.agg #[.int .i64 x.k, .int .i64 x.n, .string x.s])).run Tryz.prog W = .ok (.bool false) W := by
  rw [neq23, eq3_self]
  rfl

/-- The arguments' boxes and two more. -/
structure Kept5 (w W : World) (a b X Y : Val) (g5 g6 : Nat) : Prop where
  two : TwoIn w W a b
  fst : Box w W g5 X
  snd : Box w W g6 Y

theorem Kept5.held {w W : World} {k n k' n' : Int} {s s' : ByteArray} {X Y : Val} {g5 g6 : Nat} (h : Kept5 w W ⟨k, n, s⟩ ⟨k', n', s'⟩ X Y g5 g6) :
    W.cell? ⟨w.heap.size, 0, none⟩ = some (.int .i64 k) ∧ W.cell? ⟨w.heap.size, 1, none⟩ = some (.int .i64 n) ∧ W.cell? ⟨w.heap.size, 2, none⟩ = some (.string s) ∧ W.cell? ⟨w.heap.size + 1, 0, none⟩ = some (.int .i64 k') ∧ W.cell? ⟨w.heap.size + 1, 1, none⟩ = some (.int .i64 n') ∧ W.cell? ⟨w.heap.size + 1, 2, none⟩ = some (.string s') ∧
      W.cell? ⟨g5, 0, none⟩ = some (.int .i64 X.k) ∧ W.cell? ⟨g5, 1, none⟩ = some (.int .i64 X.n) ∧ W.cell? ⟨g5, 2, none⟩ = some (.string X.s) ∧ W.cell? ⟨g6, 0, none⟩ = some (.int .i64 Y.k) ∧ W.cell? ⟨g6, 1, none⟩ = some (.int .i64 Y.n) ∧ W.cell? ⟨g6, 2, none⟩ = some (.string Y.s) ∧ Kept5 w W ⟨k, n, s⟩ ⟨k', n', s'⟩ X Y g5 g6 := by
  obtain ⟨⟨c0, c1, c2⟩, ⟨d0, d1, d2⟩, _⟩ := h.two.cells
  obtain ⟨⟨e0, e1, e2⟩, _⟩ := h.fst.cells
  obtain ⟨⟨f0, f1, f2⟩, _⟩ := h.snd.cells
  exact ⟨c0, c1, c2, d0, d1, d2, e0, e1, e2, f0, f1, f2, h⟩

theorem TwoIn.held {w W : World} {k n k' n' : Int} {s s' : ByteArray} (h : TwoIn w W ⟨k, n, s⟩ ⟨k', n', s'⟩) :
    W.cell? ⟨w.heap.size, 0, none⟩ = some (.int .i64 k) ∧ W.cell? ⟨w.heap.size, 1, none⟩ = some (.int .i64 n) ∧ W.cell? ⟨w.heap.size, 2, none⟩ = some (.string s) ∧ W.cell? ⟨w.heap.size + 1, 0, none⟩ = some (.int .i64 k') ∧ W.cell? ⟨w.heap.size + 1, 1, none⟩ = some (.int .i64 n') ∧ W.cell? ⟨w.heap.size + 1, 2, none⟩ = some (.string s') ∧ TwoIn w W ⟨k, n, s⟩ ⟨k', n', s'⟩ := by
  obtain ⟨⟨c0, c1, c2⟩, ⟨d0, d1, d2⟩, _⟩ := h.cells
  exact ⟨c0, c1, c2, d0, d1, d2, h⟩

set_option maxRecDepth 20000 in
set_option maxHeartbeats 8000000 in
theorem Tryz.lawV (a b : Val) (ha : a.s.size ≤ 9223372036854775807) (hb : b.s.size ≤ 9223372036854775807) (w : World)
    (hst : ∀ w', Below w.heap.size w w' → Calls Tryz.prog 14 #[] w' fun e w'' => e = .returned (.bool true) ∧ Below w'.heap.size w' w'') :
    Calls Tryz.prog 3 #[a.v, b.v] w fun e w' => e = .returned (.bool true) ∧ Below w.heap.size w w' := by
  have hT := TwoIn.start w a b
  have hg := guard23
  have hnq := neq23
  obtain ⟨k, n, s⟩ := a
  obtain ⟨k', n', s'⟩ := b
  unfold Val.v valV
  go_enter Tryz.func3, Tryz.ntmps3
  go_wp2_with fail
  refine (Tryz.andV ⟨k, n, s⟩ ⟨k', n', s'⟩ _).mono ?_
  rintro e w1 ⟨rfl, hb1⟩
  have hT1 := TwoIn.next (a := ⟨k, n, s⟩) (b := ⟨k', n', s'⟩) hT hb1
  clear hT hb1
  simp only [Val.v, valV]
  go_wp2_with fail
  refine (Tryz.notV (Proofs.andV ⟨k, n, s⟩ ⟨k', n', s'⟩) _).mono ?_
  rintro e w2 ⟨rfl, hb2⟩
  have hT2 := TwoIn.next (a := ⟨k, n, s⟩) (b := ⟨k', n', s'⟩) hT1 hb2
  clear hT1 hb2
  simp only [Val.v, valV]
  go_wp2_with fail
  have hT3 := hT2.alloc (.cells #[.int .i64 (Proofs.notV (Proofs.andV ⟨k, n, s⟩ ⟨k', n', s'⟩)).k, .int .i64 (Proofs.notV (Proofs.andV ⟨k, n, s⟩ ⟨k', n', s'⟩)).n, .string (Proofs.notV (Proofs.andV ⟨k, n, s⟩ ⟨k', n', s'⟩)).s] 23)
  have hB5 := Box.new hT2 (Proofs.notV (Proofs.andV ⟨k, n, s⟩ ⟨k', n', s'⟩))
  clear hT2
  generalize w2.heap.size = g5 at hB5 ⊢
  generalize w2.alloc (.cells #[.int .i64 (Proofs.notV (Proofs.andV ⟨k, n, s⟩ ⟨k', n', s'⟩)).k, .int .i64 (Proofs.notV (Proofs.andV ⟨k, n, s⟩ ⟨k', n', s'⟩)).n, .string (Proofs.notV (Proofs.andV ⟨k, n, s⟩ ⟨k', n', s'⟩)).s] 23) = W3 at hT3 hB5 ⊢
  go_cut [6] from 10 to 18 (fun s6 wx => ∃ g6 : Nat, s6 = .pointer (some ⟨g6, 0, none⟩) ∧ TwoIn w wx ⟨k, n, s⟩ ⟨k', n', s'⟩ ∧ Box w wx g5 (Proofs.notV (Proofs.andV ⟨k, n, s⟩ ⟨k', n', s'⟩)) ∧ Box w wx g6 (Proofs.orV (Proofs.notV ⟨k, n, s⟩) (Proofs.notV ⟨k', n', s'⟩)))
  case first =>
    have hT4 := hT3.drew
    have hB4 := hB5.drew
    obtain ⟨⟨c0, c1, c2⟩, ⟨d0, d1, d2⟩, _⟩ := hT4.cells
    obtain ⟨⟨a0, a1, a2⟩, ⟨b0, b1, b2⟩, _⟩ := (hT4.alloc (.cells #[.int .i64 0, .int .i64 0, .string ⟨#[]⟩] 23)).cells
    obtain ⟨⟨e0, e1, e2⟩, ⟨f0, f1, f2⟩, _⟩ := ((hT3.alloc (.cells #[.int .i64 0, .int .i64 0, .string ⟨#[]⟩] 23)).drew).cells
    go_region_with (first
      | (go_at_call_of 6 (Value.agg #[.int .i64 k, .int .i64 n, .string s]); refine (Tryz.notU ⟨k, n, s⟩ _).mono ?_; rintro e w1 ⟨rfl, hb1⟩; have hT1 := TwoIn.next (a := ⟨k, n, s⟩) (b := ⟨k', n', s'⟩) (by first | assumption | exact TwoIn.alloc (by assumption) _) hb1; have hB1 := Box.next (v := Proofs.notV (Proofs.andV ⟨k, n, s⟩ ⟨k', n', s'⟩)) (g := g5) (by first | assumption | exact Box.alloc (by assumption) _) hb1; (first | (have hZ1 := Box.next (Box.new hT4 Val.zero) hb1; change Box w _ W3.heap.size _ at hZ1; obtain ⟨⟨z0, z1, z2⟩, z3, z4, z5⟩ := hZ1.cells; clear hb1) | (have hZ1 := Box.next (w := w) (v := Val.zero) (by first | assumption | exact Box.new (a := ⟨k, n, s⟩) (b := ⟨k', n', s'⟩) (by assumption) Val.zero) hb1; (try change Box w _ W3.heap.size _ at hZ1); obtain ⟨⟨z0, z1, z2⟩, z3, z4, z5⟩ := hZ1.cells; clear hb1) | clear hb1); obtain ⟨⟨c0, c1, c2⟩, ⟨d0, d1, d2⟩, _⟩ := hT1.cells; obtain ⟨⟨a0, a1, a2⟩, ⟨b0, b1, b2⟩, _⟩ := (hT1.alloc (.cells #[.int .i64 0, .int .i64 0, .string ⟨#[]⟩] 23)).cells)
      | (go_at_call_of 6 (Value.agg #[.int .i64 k', .int .i64 n', .string s']); refine (Tryz.notU ⟨k', n', s'⟩ _).mono ?_; rintro e w1 ⟨rfl, hb1⟩; have hT1 := TwoIn.next (a := ⟨k, n, s⟩) (b := ⟨k', n', s'⟩) (by first | assumption | exact TwoIn.alloc (by assumption) _) hb1; have hB1 := Box.next (v := Proofs.notV (Proofs.andV ⟨k, n, s⟩ ⟨k', n', s'⟩)) (g := g5) (by first | assumption | exact Box.alloc (by assumption) _) hb1; (first | (have hZ1 := Box.next (Box.new hT4 Val.zero) hb1; change Box w _ W3.heap.size _ at hZ1; obtain ⟨⟨z0, z1, z2⟩, z3, z4, z5⟩ := hZ1.cells; clear hb1) | (have hZ1 := Box.next (w := w) (v := Val.zero) (by first | assumption | exact Box.new (a := ⟨k, n, s⟩) (b := ⟨k', n', s'⟩) (by assumption) Val.zero) hb1; (try change Box w _ W3.heap.size _ at hZ1); obtain ⟨⟨z0, z1, z2⟩, z3, z4, z5⟩ := hZ1.cells; clear hb1) | clear hb1); obtain ⟨⟨c0, c1, c2⟩, ⟨d0, d1, d2⟩, _⟩ := hT1.cells; obtain ⟨⟨a0, a1, a2⟩, ⟨b0, b1, b2⟩, _⟩ := (hT1.alloc (.cells #[.int .i64 0, .int .i64 0, .string ⟨#[]⟩] 23)).cells)
      | (go_at_call 8; refine (Tryz.orU (Proofs.notV ⟨k, n, s⟩) (Proofs.notV ⟨k', n', s'⟩) _).mono ?_; rintro e w1 ⟨rfl, hb1⟩; have hT1 := TwoIn.next (a := ⟨k, n, s⟩) (b := ⟨k', n', s'⟩) (by first | assumption | exact TwoIn.alloc (by assumption) _) hb1; have hB1 := Box.next (v := Proofs.notV (Proofs.andV ⟨k, n, s⟩ ⟨k', n', s'⟩)) (g := g5) (by first | assumption | exact Box.alloc (by assumption) _) hb1; (first | (have hZ1 := Box.next (Box.new hT4 Val.zero) hb1; change Box w _ W3.heap.size _ at hZ1; obtain ⟨⟨z0, z1, z2⟩, z3, z4, z5⟩ := hZ1.cells; clear hb1) | (have hZ1 := Box.next (w := w) (v := Val.zero) (by first | assumption | exact Box.new (a := ⟨k, n, s⟩) (b := ⟨k', n', s'⟩) (by assumption) Val.zero) hb1; (try change Box w _ W3.heap.size _ at hZ1); obtain ⟨⟨z0, z1, z2⟩, z3, z4, z5⟩ := hZ1.cells; clear hb1) | clear hb1); obtain ⟨⟨c0, c1, c2⟩, ⟨d0, d1, d2⟩, _⟩ := hT1.cells; obtain ⟨⟨a0, a1, a2⟩, ⟨b0, b1, b2⟩, _⟩ := (hT1.alloc (.cells #[.int .i64 0, .int .i64 0, .string ⟨#[]⟩] 23)).cells))
    all_goals (go_wp2_with fail; go_meet)
    all_goals first
      | exact box_made (Proofs.orV (Proofs.notV ⟨k, n, s⟩) (Proofs.notV ⟨k', n', s'⟩)) (a := ⟨k, n, s⟩) (b := ⟨k', n', s'⟩) (by assumption) (by assumption)
      | exact box_laid (Proofs.orV (Proofs.notV ⟨k, n, s⟩) (Proofs.notV ⟨k', n', s'⟩)) (a := ⟨k, n, s⟩) (b := ⟨k', n', s'⟩) (by assumption) (by assumption) (v := Proofs.notV (Proofs.andV ⟨k, n, s⟩ ⟨k', n', s'⟩)) (u := Proofs.notV (Proofs.andV ⟨k, n, s⟩ ⟨k', n', s'⟩)) (by assumption) (y := Val.zero) (by assumption)
  case rest =>
    obtain ⟨g6, rfl, hT6, hB6, hB7⟩ := hcut
    rw [← not_or] at hB7
    have hK4 : ∃ N : Val, Kept4 w wc ⟨k, n, s⟩ ⟨k', n', s'⟩ N g5 g6 := ⟨_, hT6, hB6, hB7⟩
    clear hT6 hB6 hB7 hB5 hT3
    obtain ⟨N, hK4⟩ := hK4
    go_wp2_with fail
    go_cut [46] from 19 to 46 (fun s46 wx => s46 = .bool false ∧ Kept4 w wx ⟨k, n, s⟩ ⟨k', n', s'⟩ N g5 g6)
    case first =>
      have hE : ∃ E : Val, (∀ W, Calls Tryz.prog 9 #[.agg #[.int .i64 k, .int .i64 n, .string s], .agg #[.int .i64 k', .int .i64 n', .string s']] W fun e W' => e = .returned (.agg #[.int .i64 E.k, .int .i64 E.n, .string E.s]) ∧ Below W.heap.size W W') ∧
          (∀ W, Calls Tryz.prog 9 #[.agg #[.int .i64 k', .int .i64 n', .string s'], .agg #[.int .i64 k, .int .i64 n, .string s]] W fun e W' => e = .returned (.agg #[.int .i64 E.k, .int .i64 E.n, .string E.s]) ∧ Below W.heap.size W W') :=
        ⟨Proofs.equalV ⟨k, n, s⟩ ⟨k', n', s'⟩, fun W => Tryz.equalV ⟨k, n, s⟩ ⟨k', n', s'⟩ ha hb W, fun W => by rw [equalV_comm]; exact Tryz.equalV ⟨k', n', s'⟩ ⟨k, n, s⟩ hb ha W⟩
      obtain ⟨E, hE1, hE2⟩ := hE
      have hF : ∃ F G : Val, (k = k' → F = G) ∧ (∀ W, Calls Tryz.prog 10 #[.agg #[.int .i64 k, .int .i64 n, .string s], .agg #[.int .i64 k', .int .i64 n', .string s']] W fun e W' => e = .returned (.agg #[.int .i64 F.k, .int .i64 F.n, .string F.s]) ∧ Below W.heap.size W W') ∧
          (∀ W, Calls Tryz.prog 10 #[.agg #[.int .i64 k', .int .i64 n', .string s'], .agg #[.int .i64 k, .int .i64 n, .string s]] W fun e W' => e = .returned (.agg #[.int .i64 G.k, .int .i64 G.n, .string G.s]) ∧ Below W.heap.size W W') :=
        ⟨Proofs.addV ⟨k, n, s⟩ ⟨k', n', s'⟩, Proofs.addV ⟨k', n', s'⟩ ⟨k, n, s⟩, fun h => addV_comm h, fun W => Tryz.addV ⟨k, n, s⟩ ⟨k', n', s'⟩ ha hb W, fun W => Tryz.addV ⟨k', n', s'⟩ ⟨k, n, s⟩ hb ha W⟩
      obtain ⟨F, G, hFG, hF1, hF2⟩ := hF
      have hN := neq23_self N
      have hE := neq23_self E
      have hD := hK4.next (Below.refl _ wc).drew
      by_cases hG : eq3 F.k F.n F.s G.k G.n G.s = true
      · have hG : ∀ W : World, (binOp .neq 23 (.agg #[.int .i64 F.k, .int .i64 F.n, .string F.s]) (.agg #[.int .i64 G.k, .int .i64 G.n, .string G.s])).run Tryz.prog W = .ok (.bool false) W := fun W => by
          rw [neq23, hG]
          rfl
        clear hnq hFG
        refine wp_region_held_drew (S := (fun w' => w'.cell? ⟨w.heap.size, 0, none⟩ = some (.int .i64 k) ∧ w'.cell? ⟨w.heap.size, 1, none⟩ = some (.int .i64 n) ∧ w'.cell? ⟨w.heap.size, 2, none⟩ = some (.string s) ∧ w'.cell? ⟨w.heap.size + 1, 0, none⟩ = some (.int .i64 k') ∧ w'.cell? ⟨w.heap.size + 1, 1, none⟩ = some (.int .i64 n') ∧ w'.cell? ⟨w.heap.size + 1, 2, none⟩ = some (.string s') ∧ w'.cell? ⟨g5, 0, none⟩ = some (.int .i64 N.k) ∧ w'.cell? ⟨g5, 1, none⟩ = some (.int .i64 N.n) ∧ w'.cell? ⟨g5, 2, none⟩ = some (.string N.s) ∧ w'.cell? ⟨g6, 0, none⟩ = some (.int .i64 N.k) ∧ w'.cell? ⟨g6, 1, none⟩ = some (.int .i64 N.n) ∧ w'.cell? ⟨g6, 2, none⟩ = some (.string N.s) ∧ Kept4 w w' ⟨k, n, s⟩ ⟨k', n', s'⟩ N g5 g6)) (by kernel_rfl) (by exact Kept4.held hD) (fun hHeld => ?_)
        refine wpAnyH_take (i := 0) (oi := ?oi0) (v := .agg #[.int .i64 N.k, .int .i64 N.n, .string N.s]) ?hi0 (by kernel_rfl) (by kernel_rfl) (by kernel_rfl) ?hq0 (Or.inl ⟨?wt0, ?ty0⟩) (by assumption) ?tr0
        case hi0 => rw [List.getElem?_toArray]; rfl
        case hq0 => exact fun _ _ _ h => h
        case wt0 => rfl
        case ty0 =>
          intro w hSw
          go_simp
        simp only [Act.put, List.setIfInBounds_toArray, List.set_cons_zero, List.set_cons_succ]
        refine wpAnyH_take (i := 1) (oi := ?oi1) (v := .agg #[.int .i64 N.k, .int .i64 N.n, .string N.s]) ?hi1 (by kernel_rfl) (by kernel_rfl) (by kernel_rfl) ?hq1 (Or.inl ⟨?wt1, ?ty1⟩) (by assumption) ?tr1
        case hi1 => rw [List.getElem?_toArray]; rfl
        case hq1 => exact fun _ _ _ h => h
        case wt1 => rfl
        case ty1 =>
          intro w hSw
          go_simp
        simp only [Act.put, List.setIfInBounds_toArray, List.set_cons_zero, List.set_cons_succ]
        refine wpAnyH_take (i := 2) (oi := ?oi2) (v := .bool false) ?hi2 (by kernel_rfl) (by kernel_rfl) (by kernel_rfl) ?hq2 (Or.inl ⟨?wt2, ?ty2⟩) (by assumption) ?tr2
        case hi2 => rw [List.getElem?_toArray]; rfl
        case hq2 => exact fun _ _ _ h => h
        case wt2 => rfl
        case ty2 =>
          intro w hSw
          go_simp
        simp only [Act.put, List.setIfInBounds_toArray, List.set_cons_zero, List.set_cons_succ]
        refine wpAnyH_take (i := 3) (oi := ?oi3) (v := .bool false) ?hi3 (by kernel_rfl) (by kernel_rfl) (by kernel_rfl) ?hq3 (Or.inl ⟨?wt3, ?ty3⟩) (by assumption) ?tr3
        case hi3 => rw [List.getElem?_toArray]; rfl
        case hq3 => exact fun _ _ _ h => h
        case wt3 => rfl
        case ty3 =>
          intro w hSw
          go_simp
        simp only [Act.put, List.setIfInBounds_toArray, List.set_cons_zero, List.set_cons_succ]
        refine wpAnyH_take (i := 4) (oi := ?oi4) (v := .agg #[.int .i64 k, .int .i64 n, .string s]) ?hi4 (by kernel_rfl) (by kernel_rfl) (by kernel_rfl) ?hq4 (Or.inl ⟨?wt4, ?ty4⟩) (by assumption) ?tr4
        case hi4 => rw [List.getElem?_toArray]; rfl
        case hq4 => exact fun _ _ _ h => h
        case wt4 => rfl
        case ty4 =>
          intro w hSw
          go_simp
        simp only [Act.put, List.setIfInBounds_toArray, List.set_cons_zero, List.set_cons_succ]
        refine wpAnyH_take (i := 5) (oi := ?oi5) (v := .agg #[.int .i64 k', .int .i64 n', .string s']) ?hi5 (by kernel_rfl) (by kernel_rfl) (by kernel_rfl) ?hq5 (Or.inl ⟨?wt5, ?ty5⟩) (by assumption) ?tr5
        case hi5 => rw [List.getElem?_toArray]; rfl
        case hq5 => exact fun _ _ _ h => h
        case wt5 => rfl
        case ty5 =>
          intro w hSw
          go_simp
        simp only [Act.put, List.setIfInBounds_toArray, List.set_cons_zero, List.set_cons_succ]
        refine wpAnyH_take (i := 7) (oi := ?oi7) (v := .agg #[.int .i64 k', .int .i64 n', .string s']) ?hi7 (by kernel_rfl) (by kernel_rfl) (by kernel_rfl) ?hq7 (Or.inl ⟨?wt7, ?ty7⟩) (by assumption) ?tr7
        case hi7 => rw [List.getElem?_toArray]; rfl
        case hq7 => exact fun _ _ _ h => h
        case wt7 => rfl
        case ty7 =>
          intro w hSw
          go_simp
        simp only [Act.put, List.setIfInBounds_toArray, List.set_cons_zero, List.set_cons_succ]
        refine wpAnyH_take (i := 8) (oi := ?oi8) (v := .agg #[.int .i64 k, .int .i64 n, .string s]) ?hi8 (by kernel_rfl) (by kernel_rfl) (by kernel_rfl) ?hq8 (Or.inl ⟨?wt8, ?ty8⟩) (by assumption) ?tr8
        case hi8 => rw [List.getElem?_toArray]; rfl
        case hq8 => exact fun _ _ _ h => h
        case wt8 => rfl
        case ty8 =>
          intro w hSw
          go_simp
        simp only [Act.put, List.setIfInBounds_toArray, List.set_cons_zero, List.set_cons_succ]
        refine wpAnyH_ready (rs := [6]) (by kernel_rfl) (by simp) ?_
        refine AllReadyH.cons (o := ?oi6) ?hi6 (fun K hK => ?st6) AllReadyH.nil
        case hi6 => rw [List.getElem?_toArray]; rfl
        go_simp
        with_reducible refine Calls.mono (hE1 _) ?_
        rintro e w1 ⟨rfl, hb1⟩
        go_wp2_with fail
        refine hK.out _ _ (held4_call hHeld hb1) (fun hHeld => ?_)
        clear hK K hb1
        try simp only [Act.put, List.setIfInBounds_toArray, List.set_cons_zero, List.set_cons_succ]
        refine wpAnyH_ready (rs := [9]) (by kernel_rfl) (by simp) ?_
        refine AllReadyH.cons (o := ?oi9) ?hi9 (fun K hK => ?st9) AllReadyH.nil
        case hi9 => rw [List.getElem?_toArray]; rfl
        go_simp
        with_reducible refine Calls.mono (hE2 _) ?_
        rintro e w1 ⟨rfl, hb1⟩
        go_wp2_with fail
        refine hK.out _ _ (held4_call hHeld hb1) (fun hHeld => ?_)
        clear hK K hb1
        try simp only [Act.put, List.setIfInBounds_toArray, List.set_cons_zero, List.set_cons_succ]
        refine wpAnyH_take (i := 10) (oi := ?oi10) (v := .bool false) ?hi10 (by kernel_rfl) (by kernel_rfl) (by kernel_rfl) ?hq10 (Or.inl ⟨?wt10, ?ty10⟩) (by assumption) ?tr10
        case hi10 => rw [List.getElem?_toArray]; rfl
        case hq10 => exact fun _ _ _ h => h
        case wt10 => rfl
        case ty10 =>
          intro w hSw
          go_simp
        simp only [Act.put, List.setIfInBounds_toArray, List.set_cons_zero, List.set_cons_succ]
        refine wpAnyH_take (i := 11) (oi := ?oi11) (v := .bool false) ?hi11 (by kernel_rfl) (by kernel_rfl) (by kernel_rfl) ?hq11 (Or.inl ⟨?wt11, ?ty11⟩) (by assumption) ?tr11
        case hi11 => rw [List.getElem?_toArray]; rfl
        case hq11 => exact fun _ _ _ h => h
        case wt11 => rfl
        case ty11 =>
          intro w hSw
          go_simp
        simp only [Act.put, List.setIfInBounds_toArray, List.set_cons_zero, List.set_cons_succ]
        refine wpAnyH_take (i := 12) (oi := ?oi12) (v := .bool false) ?hi12 (by kernel_rfl) (by kernel_rfl) (by kernel_rfl) ?hq12 (Or.inl ⟨?wt12, ?ty12⟩) (by assumption) ?tr12
        case hi12 => rw [List.getElem?_toArray]; rfl
        case hq12 => exact fun _ _ _ h => h
        case wt12 => rfl
        case ty12 =>
          intro w hSw
          go_simp
        simp only [Act.put, List.setIfInBounds_toArray, List.set_cons_zero, List.set_cons_succ]
        refine wpAnyH_take (i := 13) (oi := ?oi13) (v := .agg #[.int .i64 k, .int .i64 n, .string s]) ?hi13 (by kernel_rfl) (by kernel_rfl) (by kernel_rfl) ?hq13 (Or.inl ⟨?wt13, ?ty13⟩) (by assumption) ?tr13
        case hi13 => rw [List.getElem?_toArray]; rfl
        case hq13 => exact fun _ _ _ h => h
        case wt13 => rfl
        case ty13 =>
          intro w hSw
          go_simp
        simp only [Act.put, List.setIfInBounds_toArray, List.set_cons_zero, List.set_cons_succ]
        refine wpAnyH_take (i := 14) (oi := ?oi14) (v := .agg #[.int .i64 k', .int .i64 n', .string s']) ?hi14 (by kernel_rfl) (by kernel_rfl) (by kernel_rfl) ?hq14 (Or.inl ⟨?wt14, ?ty14⟩) (by assumption) ?tr14
        case hi14 => rw [List.getElem?_toArray]; rfl
        case hq14 => exact fun _ _ _ h => h
        case wt14 => rfl
        case ty14 =>
          intro w hSw
          go_simp
        simp only [Act.put, List.setIfInBounds_toArray, List.set_cons_zero, List.set_cons_succ]
        refine wpAnyH_take (i := 16) (oi := ?oi16) (v := .agg #[.int .i64 k', .int .i64 n', .string s']) ?hi16 (by kernel_rfl) (by kernel_rfl) (by kernel_rfl) ?hq16 (Or.inl ⟨?wt16, ?ty16⟩) (by assumption) ?tr16
        case hi16 => rw [List.getElem?_toArray]; rfl
        case hq16 => exact fun _ _ _ h => h
        case wt16 => rfl
        case ty16 =>
          intro w hSw
          go_simp
        simp only [Act.put, List.setIfInBounds_toArray, List.set_cons_zero, List.set_cons_succ]
        refine wpAnyH_take (i := 17) (oi := ?oi17) (v := .agg #[.int .i64 k, .int .i64 n, .string s]) ?hi17 (by kernel_rfl) (by kernel_rfl) (by kernel_rfl) ?hq17 (Or.inl ⟨?wt17, ?ty17⟩) (by assumption) ?tr17
        case hi17 => rw [List.getElem?_toArray]; rfl
        case hq17 => exact fun _ _ _ h => h
        case wt17 => rfl
        case ty17 =>
          intro w hSw
          go_simp
        simp only [Act.put, List.setIfInBounds_toArray, List.set_cons_zero, List.set_cons_succ]
        refine wpAnyH_ready (rs := [15]) (by kernel_rfl) (by simp) ?_
        refine AllReadyH.cons (o := ?oi15) ?hi15 (fun K hK => ?st15) AllReadyH.nil
        case hi15 => rw [List.getElem?_toArray]; rfl
        go_simp
        with_reducible refine Calls.mono (hF1 _) ?_
        rintro e w1 ⟨rfl, hb1⟩
        go_wp2_with fail
        refine hK.out _ _ (held4_call hHeld hb1) (fun hHeld => ?_)
        clear hK K hb1
        try simp only [Act.put, List.setIfInBounds_toArray, List.set_cons_zero, List.set_cons_succ]
        refine wpAnyH_ready (rs := [18]) (by kernel_rfl) (by simp) ?_
        refine AllReadyH.cons (o := ?oi18) ?hi18 (fun K hK => ?st18) AllReadyH.nil
        case hi18 => rw [List.getElem?_toArray]; rfl
        go_simp
        with_reducible refine Calls.mono (hF2 _) ?_
        rintro e w1 ⟨rfl, hb1⟩
        go_wp2_with fail
        refine hK.out _ _ (held4_call hHeld hb1) (fun hHeld => ?_)
        clear hK K hb1
        try simp only [Act.put, List.setIfInBounds_toArray, List.set_cons_zero, List.set_cons_succ]
        refine wpAnyH_take (i := 19) (oi := ?oi19) (v := .bool false) ?hi19 (by kernel_rfl) (by kernel_rfl) (by kernel_rfl) ?hq19 (Or.inl ⟨?wt19, ?ty19⟩) (by assumption) ?tr19
        case hi19 => rw [List.getElem?_toArray]; rfl
        case hq19 => exact fun _ _ _ h => h
        case wt19 => rfl
        case ty19 =>
          intro w hSw
          go_simp
        simp only [Act.put, List.setIfInBounds_toArray, List.set_cons_zero, List.set_cons_succ]
        refine wpAnyH_take (i := 20) (oi := ?oi20) (v := .bool false) ?hi20 (by kernel_rfl) (by kernel_rfl) (by kernel_rfl) ?hq20 (Or.inl ⟨?wt20, ?ty20⟩) (by assumption) ?tr20
        case hi20 => rw [List.getElem?_toArray]; rfl
        case hq20 => exact fun _ _ _ h => h
        case wt20 => rfl
        case ty20 =>
          intro w hSw
          go_simp
        simp only [Act.put, List.setIfInBounds_toArray, List.set_cons_zero, List.set_cons_succ]
        refine wpAnyH_take (i := 21) (oi := ?oi21) (v := undef) ?hi21 (by kernel_rfl) (by kernel_rfl) (by kernel_rfl) ?hq21 (Or.inr ⟨?wt21, rfl⟩) (by assumption) ?tr21
        case hi21 => rw [List.getElem?_toArray]; rfl
        case hq21 => exact fun _ _ _ h => h
        case wt21 => rfl
        simp only [Act.put, List.setIfInBounds_toArray, List.set_cons_zero, List.set_cons_succ]
        refine wpAnyH_take (i := 22) (oi := ?oi22) (v := undef) ?hi22 (by kernel_rfl) (by kernel_rfl) (by kernel_rfl) ?hq22 (Or.inr ⟨?wt22, rfl⟩) (by assumption) ?tr22
        case hi22 => rw [List.getElem?_toArray]; rfl
        case hq22 => exact fun _ _ _ h => h
        case wt22 => rfl
        simp only [Act.put, List.setIfInBounds_toArray, List.set_cons_zero, List.set_cons_succ]
        refine wpAnyH_take (i := 23) (oi := ?oi23) (v := undef) ?hi23 (by kernel_rfl) (by kernel_rfl) (by kernel_rfl) ?hq23 (Or.inr ⟨?wt23, rfl⟩) (by assumption) ?tr23
        case hi23 => rw [List.getElem?_toArray]; rfl
        case hq23 => exact fun _ _ _ h => h
        case wt23 => rfl
        simp only [Act.put, List.setIfInBounds_toArray, List.set_cons_zero, List.set_cons_succ]
        refine wpAnyH_take (i := 24) (oi := ?oi24) (v := undef) ?hi24 (by kernel_rfl) (by kernel_rfl) (by kernel_rfl) ?hq24 (Or.inr ⟨?wt24, rfl⟩) (by assumption) ?tr24
        case hi24 => rw [List.getElem?_toArray]; rfl
        case hq24 => exact fun _ _ _ h => h
        case wt24 => rfl
        simp only [Act.put, List.setIfInBounds_toArray, List.set_cons_zero, List.set_cons_succ]
        refine wpAnyH_take (i := 25) (oi := ?oi25) (v := undef) ?hi25 (by kernel_rfl) (by kernel_rfl) (by kernel_rfl) ?hq25 (Or.inr ⟨?wt25, rfl⟩) (by assumption) ?tr25
        case hi25 => rw [List.getElem?_toArray]; rfl
        case hq25 => exact fun _ _ _ h => h
        case wt25 => rfl
        simp only [Act.put, List.setIfInBounds_toArray, List.set_cons_zero, List.set_cons_succ]
        refine wpAnyH_take (i := 26) (oi := ?oi26) (v := .bool false) ?hi26 (by kernel_rfl) (by kernel_rfl) (by kernel_rfl) ?hq26 (Or.inl ⟨?wt26, ?ty26⟩) (by assumption) ?tr26
        case hi26 => rw [List.getElem?_toArray]; rfl
        case hq26 => exact fun _ _ _ h => h
        case wt26 => rfl
        case ty26 =>
          intro w hSw
          go_simp
        simp only [Act.put, List.setIfInBounds_toArray, List.set_cons_zero, List.set_cons_succ]
        refine wpAnyH_take (i := 27) (oi := ?oi27) (v := .bool false) ?hi27 (by kernel_rfl) (by kernel_rfl) (by kernel_rfl) ?hq27 (Or.inl ⟨?wt27, ?ty27⟩) (by assumption) ?tr27
        case hi27 => rw [List.getElem?_toArray]; rfl
        case hq27 => exact fun _ _ _ h => h
        case wt27 => rfl
        case ty27 =>
          intro w hSw
          go_simp
        simp only [Act.put, List.setIfInBounds_toArray, List.set_cons_zero, List.set_cons_succ]
        refine wpAnyH_done (by kernel_rfl) ?_ _
        go_wp2_with fail
        go_meet
        exact ⟨rfl, hHeld.2.2.2.2.2.2.2.2.2.2.2.2⟩
      · have hk : (k == k') = false := by
          simp only [beq_eq_false_iff_ne]
          intro e
          obtain rfl := hFG e
          exact hG (eq3_self _ _ _)
        have hG : ∀ W : World, (binOp .neq 23 (.agg #[.int .i64 F.k, .int .i64 F.n, .string F.s]) (.agg #[.int .i64 G.k, .int .i64 G.n, .string G.s])).run Tryz.prog W = .ok (.bool true) W := fun W => by
          rw [neq23, Bool.eq_false_iff.2 hG]
          rfl
        clear hnq hFG
        go_region_held3 (fun w' => w'.cell? ⟨w.heap.size, 0, none⟩ = some (.int .i64 k) ∧ w'.cell? ⟨w.heap.size, 1, none⟩ = some (.int .i64 n) ∧ w'.cell? ⟨w.heap.size, 2, none⟩ = some (.string s) ∧ w'.cell? ⟨w.heap.size + 1, 0, none⟩ = some (.int .i64 k') ∧ w'.cell? ⟨w.heap.size + 1, 1, none⟩ = some (.int .i64 n') ∧ w'.cell? ⟨w.heap.size + 1, 2, none⟩ = some (.string s') ∧ w'.cell? ⟨g5, 0, none⟩ = some (.int .i64 N.k) ∧ w'.cell? ⟨g5, 1, none⟩ = some (.int .i64 N.n) ∧ w'.cell? ⟨g5, 2, none⟩ = some (.string N.s) ∧ w'.cell? ⟨g6, 0, none⟩ = some (.int .i64 N.k) ∧ w'.cell? ⟨g6, 1, none⟩ = some (.int .i64 N.n) ∧ w'.cell? ⟨g6, 2, none⟩ = some (.string N.s) ∧ Kept4 w w' ⟨k, n, s⟩ ⟨k', n', s'⟩ N g5 g6)
          (first | exact Kept4.held hD | exact held4_call (by assumption) (by assumption))
          (first
          | (go_at_call 9; with_reducible refine Calls.mono (hE1 _) ?_; rintro e w1 ⟨rfl, hb1⟩)
          | (go_at_call 9; with_reducible refine Calls.mono (hE2 _) ?_; rintro e w1 ⟨rfl, hb1⟩)
          | (go_at_call 10; with_reducible refine Calls.mono (hF1 _) ?_; rintro e w1 ⟨rfl, hb1⟩)
          | (go_at_call 10; with_reducible refine Calls.mono (hF2 _) ?_; rintro e w1 ⟨rfl, hb1⟩))
        go_wp2_with fail
        go_meet
        rename_i hheld
        exact ⟨rfl, hheld.2.2.2.2.2.2.2.2.2.2.2.2⟩
    case rest =>
      obtain ⟨rfl, hK5⟩ := hcut
      have hT := hK5.two
      clear hK5 hK4
      have hDM : ∃ q r : Val, Shut (q = Proofs.divV ⟨k, n, s⟩ ⟨k', n', s'⟩ ∧ r = Proofs.modV ⟨k, n, s⟩ ⟨k', n', s'⟩) ∧ (∀ W, Calls Tryz.prog 11 #[.agg #[.int .i64 k, .int .i64 n, .string s], .agg #[.int .i64 k', .int .i64 n', .string s']] W fun e W' => e = .returned (.agg #[.int .i64 q.k, .int .i64 q.n, .string q.s]) ∧ Below W.heap.size W W') ∧
          (∀ W, Calls Tryz.prog 12 #[.agg #[.int .i64 k, .int .i64 n, .string s], .agg #[.int .i64 k', .int .i64 n', .string s']] W fun e W' => e = .returned (.agg #[.int .i64 r.k, .int .i64 r.n, .string r.s]) ∧ Below W.heap.size W W') :=
        ⟨_, _, ⟨rfl, rfl⟩, fun W => Tryz.divV ⟨k, n, s⟩ ⟨k', n', s'⟩ ha hb W, fun W => Tryz.modV ⟨k, n, s⟩ ⟨k', n', s'⟩ ha hb W⟩
      obtain ⟨q, r, hqr0, hD1, hD2⟩ := hDM
      go_wp2_with fail
      go_cut [7, 8] from 10 to 52 (fun s7 s8 wx => ∃ g7 g8 : Nat, s7 = .pointer (some ⟨g7, 0, none⟩) ∧ s8 = .pointer (some ⟨g8, 0, none⟩) ∧ TwoIn w wx ⟨k, n, s⟩ ⟨k', n', s'⟩ ∧ Box w wx g7 q ∧ Box w wx g8 r)
      case first =>
        refine wp_region_held_drew (S := (fun w' => w'.cell? ⟨w.heap.size, 0, none⟩ = some (.int .i64 k) ∧ w'.cell? ⟨w.heap.size, 1, none⟩ = some (.int .i64 n) ∧ w'.cell? ⟨w.heap.size, 2, none⟩ = some (.string s) ∧ w'.cell? ⟨w.heap.size + 1, 0, none⟩ = some (.int .i64 k') ∧ w'.cell? ⟨w.heap.size + 1, 1, none⟩ = some (.int .i64 n') ∧ w'.cell? ⟨w.heap.size + 1, 2, none⟩ = some (.string s') ∧ TwoIn w w' ⟨k, n, s⟩ ⟨k', n', s'⟩)) (by kernel_rfl) (by exact hT.drew.held) (fun hHeld => ?_)
        replace hT := hT.drew
        generalize World.drew wc = W0 at hT hHeld ⊢
        refine wpAnyH_take (i := 0) (oi := ?qt1o) (v := .agg #[.int .i64 k, .int .i64 n, .string s]) ?qt1h (by kernel_rfl) (by kernel_rfl) (by kernel_rfl) ?qt1q (Or.inl ⟨?qt1w, ?qt1y⟩) (by assumption) ?qt1r
        case qt1h => rw [List.getElem?_toArray]; rfl
        case qt1q => exact fun _ _ _ h => h
        case qt1w => rfl
        case qt1y =>
          intro w hSw
          go_simp
        simp only [Act.put, List.setIfInBounds_toArray, List.set_cons_zero, List.set_cons_succ]
        refine wpAnyH_take (i := 1) (oi := ?qt2o) (v := .agg #[.int .i64 k', .int .i64 n', .string s']) ?qt2h (by kernel_rfl) (by kernel_rfl) (by kernel_rfl) ?qt2q (Or.inl ⟨?qt2w, ?qt2y⟩) (by assumption) ?qt2r
        case qt2h => rw [List.getElem?_toArray]; rfl
        case qt2q => exact fun _ _ _ h => h
        case qt2w => rfl
        case qt2y =>
          intro w hSw
          go_simp
        simp only [Act.put, List.setIfInBounds_toArray, List.set_cons_zero, List.set_cons_succ]
        refine wpAnyH_take (i := 3) (oi := ?qt3o) (v := .agg #[.int .i64 k, .int .i64 n, .string s]) ?qt3h (by kernel_rfl) (by kernel_rfl) (by kernel_rfl) ?qt3q (Or.inl ⟨?qt3w, ?qt3y⟩) (by assumption) ?qt3r
        case qt3h => rw [List.getElem?_toArray]; rfl
        case qt3q => exact fun _ _ _ h => h
        case qt3w => rfl
        case qt3y =>
          intro w hSw
          go_simp
        simp only [Act.put, List.setIfInBounds_toArray, List.set_cons_zero, List.set_cons_succ]
        refine wpAnyH_take (i := 4) (oi := ?qt4o) (v := .agg #[.int .i64 k', .int .i64 n', .string s']) ?qt4h (by kernel_rfl) (by kernel_rfl) (by kernel_rfl) ?qt4q (Or.inl ⟨?qt4w, ?qt4y⟩) (by assumption) ?qt4r
        case qt4h => rw [List.getElem?_toArray]; rfl
        case qt4q => exact fun _ _ _ h => h
        case qt4w => rfl
        case qt4y =>
          intro w hSw
          go_simp
        simp only [Act.put, List.setIfInBounds_toArray, List.set_cons_zero, List.set_cons_succ]
        refine wpAnyH_ready (rs := [2, 6, 7]) (by kernel_rfl) (by simp) ?_
        refine AllReadyH.cons (o := ?qb5o) ?qb5h (fun K hK => ?qb5s) (AllReadyH.cons (o := ?qb6o) ?qb6h (fun K hK => ?qb6s) (AllReadyH.cons (o := ?qb7o) ?qb7h (fun K hK => ?qb7s) AllReadyH.nil))
        case qb5h => rw [List.getElem?_toArray]; rfl
        case qb6h => rw [List.getElem?_toArray]; rfl
        case qb7h => rw [List.getElem?_toArray]; rfl
        case qb5s =>
          go_simp
          with_reducible refine Calls.mono (hD1 _) ?_
          rintro e qw8 ⟨rfl, hb1⟩
          go_wp2_with fail
          refine hK.out _ _ (hT.next hb1).held (fun hHeld => ?_)
          replace hT := hT.next hb1
          clear hK K hb1
          try simp only [Act.put, List.setIfInBounds_toArray, List.set_cons_zero, List.set_cons_succ]
          refine wpAnyH_ready (rs := [5, 6, 7]) (by kernel_rfl) (by simp) ?_
          refine AllReadyH.cons (o := ?qb9o) ?qb9h (fun K hK => ?qb9s) (AllReadyH.cons (o := ?qb10o) ?qb10h (fun K hK => ?qb10s) (AllReadyH.cons (o := ?qb11o) ?qb11h (fun K hK => ?qb11s) AllReadyH.nil))
          case qb9h => rw [List.getElem?_toArray]; rfl
          case qb10h => rw [List.getElem?_toArray]; rfl
          case qb11h => rw [List.getElem?_toArray]; rfl
          case qb9s =>
            go_simp
            with_reducible refine Calls.mono (hD2 _) ?_
            rintro e qw12 ⟨rfl, hb1⟩
            go_wp2_with fail
            refine hK.out _ _ (hT.next hb1).held (fun hHeld => ?_)
            replace hT := hT.next hb1
            clear hK K hb1
            try simp only [Act.put, List.setIfInBounds_toArray, List.set_cons_zero, List.set_cons_succ]
            refine wpAnyH_ready (rs := [6, 7]) (by kernel_rfl) (by simp) ?_
            refine AllReadyH.cons (o := ?qb13o) ?qb13h (fun K hK => ?qb13s) (AllReadyH.cons (o := ?qb14o) ?qb14h (fun K hK => ?qb14s) AllReadyH.nil)
            case qb13h => rw [List.getElem?_toArray]; rfl
            case qb14h => rw [List.getElem?_toArray]; rfl
            case qb13s =>
              go_simp
              refine hK.out _ _ (hT.alloc _).held (fun hHeld => ?_)
              have hQ : Box w (World.alloc qw12 (.cells #[.int .i64 0, .int .i64 0, .string ⟨#[]⟩] 23)) (World.heap qw12).size Val.zero := Box.new hT Val.zero
              replace hT := hT.alloc (.cells #[.int .i64 0, .int .i64 0, .string ⟨#[]⟩] 23)
              clear hK K
              try simp only [Act.put, List.setIfInBounds_toArray, List.set_cons_zero, List.set_cons_succ]
              generalize (World.heap qw12).size = g7 at hQ  ⊢
              generalize World.alloc qw12 (.cells #[.int .i64 0, .int .i64 0, .string ⟨#[]⟩] 23) = qw15 at hT hQ  hHeld ⊢
              refine wpAnyH_ready (rs := [7]) (by kernel_rfl) (by simp) ?_
              refine AllReadyH.cons (o := ?qb16o) ?qb16h (fun K hK => ?qb16s) AllReadyH.nil
              case qb16h => rw [List.getElem?_toArray]; rfl
              go_simp
              refine hK.out _ _ (hT.alloc _).held (fun hHeld => ?_)
              have hR : Box w (World.alloc qw15 (.cells #[.int .i64 0, .int .i64 0, .string ⟨#[]⟩] 23)) (World.heap qw15).size Val.zero := Box.new hT Val.zero
              have hQhR : g7 ≠ (World.heap qw15).size := Nat.ne_of_lt hQ.lt
              replace hT := hT.alloc (.cells #[.int .i64 0, .int .i64 0, .string ⟨#[]⟩] 23)
              replace hQ := hQ.alloc (.cells #[.int .i64 0, .int .i64 0, .string ⟨#[]⟩] 23)
              clear hK K
              try simp only [Act.put, List.setIfInBounds_toArray, List.set_cons_zero, List.set_cons_succ]
              generalize (World.heap qw15).size = g8 at hR hQhR ⊢
              generalize World.alloc qw15 (.cells #[.int .i64 0, .int .i64 0, .string ⟨#[]⟩] 23) = qw17 at hT hR hQ hHeld ⊢
              refine wpAnyH_ready (rs := [8]) (by kernel_rfl) (by simp) ?_
              refine AllReadyH.cons (o := ?qb18o) ?qb18h (fun K hK => ?qb18s) AllReadyH.nil
              case qb18h => rw [List.getElem?_toArray]; rfl
              obtain ⟨⟨z0, z1, z2⟩, y0, y1, y2⟩ := hQ.cells
              go_simp
              refine hK.out _ _ (hT.other q hQ.old).held (fun hHeld => ?_)
              clear hK K z0 z1 z2 y0 y1 y2
              try simp only [Act.put, List.setIfInBounds_toArray, List.set_cons_zero, List.set_cons_succ]
              change wpAnyH _ _ _ _ _ _ _ _ (set3 qw17 g7 q)
              replace hT := hT.other q hQ.old
              replace hR := hR.other q hQhR
              replace hQ := hQ.set q
              clear hHeld
              have hHeld := (hT).held
              generalize set3 qw17 g7 q = qw19 at hT hQ hR hHeld ⊢
              refine wpAnyH_ready (rs := [9]) (by kernel_rfl) (by simp) ?_
              refine AllReadyH.cons (o := ?qb20o) ?qb20h (fun K hK => ?qb20s) AllReadyH.nil
              case qb20h => rw [List.getElem?_toArray]; rfl
              obtain ⟨⟨z0, z1, z2⟩, y0, y1, y2⟩ := hR.cells
              go_simp
              refine hK.out _ _ (hT.other r hR.old).held (fun hHeld => ?_)
              clear hK K z0 z1 z2 y0 y1 y2
              try simp only [Act.put, List.setIfInBounds_toArray, List.set_cons_zero, List.set_cons_succ]
              change wpAnyH _ _ _ _ _ _ _ _ (set3 qw19 g8 r)
              replace hT := hT.other r hR.old
              replace hQ := hQ.other r (Ne.symm hQhR)
              replace hR := hR.set r
              clear hHeld
              have hHeld := (hT).held
              generalize set3 qw19 g8 r = qw21 at hT hR hQ hHeld ⊢
              refine wpAnyH_done (by kernel_rfl) ?_ _
              go_wp2_with fail
              go_meet
              exact ⟨g7, g8, rfl, rfl, hT, hQ, hR⟩
            case qb14s =>
              go_simp
              refine hK.out _ _ (hT.alloc _).held (fun hHeld => ?_)
              have hR : Box w (World.alloc qw12 (.cells #[.int .i64 0, .int .i64 0, .string ⟨#[]⟩] 23)) (World.heap qw12).size Val.zero := Box.new hT Val.zero
              replace hT := hT.alloc (.cells #[.int .i64 0, .int .i64 0, .string ⟨#[]⟩] 23)
              clear hK K
              try simp only [Act.put, List.setIfInBounds_toArray, List.set_cons_zero, List.set_cons_succ]
              generalize (World.heap qw12).size = g8 at hR  ⊢
              generalize World.alloc qw12 (.cells #[.int .i64 0, .int .i64 0, .string ⟨#[]⟩] 23) = qw22 at hT hR  hHeld ⊢
              refine wpAnyH_ready (rs := [6]) (by kernel_rfl) (by simp) ?_
              refine AllReadyH.cons (o := ?qb23o) ?qb23h (fun K hK => ?qb23s) AllReadyH.nil
              case qb23h => rw [List.getElem?_toArray]; rfl
              go_simp
              refine hK.out _ _ (hT.alloc _).held (fun hHeld => ?_)
              have hQ : Box w (World.alloc qw22 (.cells #[.int .i64 0, .int .i64 0, .string ⟨#[]⟩] 23)) (World.heap qw22).size Val.zero := Box.new hT Val.zero
              have hRhQ : g8 ≠ (World.heap qw22).size := Nat.ne_of_lt hR.lt
              replace hT := hT.alloc (.cells #[.int .i64 0, .int .i64 0, .string ⟨#[]⟩] 23)
              replace hR := hR.alloc (.cells #[.int .i64 0, .int .i64 0, .string ⟨#[]⟩] 23)
              clear hK K
              try simp only [Act.put, List.setIfInBounds_toArray, List.set_cons_zero, List.set_cons_succ]
              generalize (World.heap qw22).size = g7 at hQ hRhQ ⊢
              generalize World.alloc qw22 (.cells #[.int .i64 0, .int .i64 0, .string ⟨#[]⟩] 23) = qw24 at hT hQ hR hHeld ⊢
              refine wpAnyH_ready (rs := [8]) (by kernel_rfl) (by simp) ?_
              refine AllReadyH.cons (o := ?qb25o) ?qb25h (fun K hK => ?qb25s) AllReadyH.nil
              case qb25h => rw [List.getElem?_toArray]; rfl
              obtain ⟨⟨z0, z1, z2⟩, y0, y1, y2⟩ := hQ.cells
              go_simp
              refine hK.out _ _ (hT.other q hQ.old).held (fun hHeld => ?_)
              clear hK K z0 z1 z2 y0 y1 y2
              try simp only [Act.put, List.setIfInBounds_toArray, List.set_cons_zero, List.set_cons_succ]
              change wpAnyH _ _ _ _ _ _ _ _ (set3 qw24 g7 q)
              replace hT := hT.other q hQ.old
              replace hR := hR.other q (Ne.symm hRhQ)
              replace hQ := hQ.set q
              clear hHeld
              have hHeld := (hT).held
              generalize set3 qw24 g7 q = qw26 at hT hQ hR hHeld ⊢
              refine wpAnyH_ready (rs := [9]) (by kernel_rfl) (by simp) ?_
              refine AllReadyH.cons (o := ?qb27o) ?qb27h (fun K hK => ?qb27s) AllReadyH.nil
              case qb27h => rw [List.getElem?_toArray]; rfl
              obtain ⟨⟨z0, z1, z2⟩, y0, y1, y2⟩ := hR.cells
              go_simp
              refine hK.out _ _ (hT.other r hR.old).held (fun hHeld => ?_)
              clear hK K z0 z1 z2 y0 y1 y2
              try simp only [Act.put, List.setIfInBounds_toArray, List.set_cons_zero, List.set_cons_succ]
              change wpAnyH _ _ _ _ _ _ _ _ (set3 qw26 g8 r)
              replace hT := hT.other r hR.old
              replace hQ := hQ.other r hRhQ
              replace hR := hR.set r
              clear hHeld
              have hHeld := (hT).held
              generalize set3 qw26 g8 r = qw28 at hT hR hQ hHeld ⊢
              refine wpAnyH_done (by kernel_rfl) ?_ _
              go_wp2_with fail
              go_meet
              exact ⟨g7, g8, rfl, rfl, hT, hQ, hR⟩
          case qb10s =>
            go_simp
            refine hK.out _ _ (hT.alloc _).held (fun hHeld => ?_)
            have hQ : Box w (World.alloc qw8 (.cells #[.int .i64 0, .int .i64 0, .string ⟨#[]⟩] 23)) (World.heap qw8).size Val.zero := Box.new hT Val.zero
            replace hT := hT.alloc (.cells #[.int .i64 0, .int .i64 0, .string ⟨#[]⟩] 23)
            clear hK K
            try simp only [Act.put, List.setIfInBounds_toArray, List.set_cons_zero, List.set_cons_succ]
            generalize (World.heap qw8).size = g7 at hQ  ⊢
            generalize World.alloc qw8 (.cells #[.int .i64 0, .int .i64 0, .string ⟨#[]⟩] 23) = qw29 at hT hQ  hHeld ⊢
            refine wpAnyH_ready (rs := [5, 7]) (by kernel_rfl) (by simp) ?_
            refine AllReadyH.cons (o := ?qb30o) ?qb30h (fun K hK => ?qb30s) (AllReadyH.cons (o := ?qb31o) ?qb31h (fun K hK => ?qb31s) AllReadyH.nil)
            case qb30h => rw [List.getElem?_toArray]; rfl
            case qb31h => rw [List.getElem?_toArray]; rfl
            case qb30s =>
              go_simp
              with_reducible refine Calls.mono (hD2 _) ?_
              rintro e qw32 ⟨rfl, hb1⟩
              go_wp2_with fail
              refine hK.out _ _ (hT.next hb1).held (fun hHeld => ?_)
              replace hT := hT.next hb1
              replace hQ := hQ.next hb1
              clear hK K hb1
              try simp only [Act.put, List.setIfInBounds_toArray, List.set_cons_zero, List.set_cons_succ]
              refine wpAnyH_ready (rs := [7]) (by kernel_rfl) (by simp) ?_
              refine AllReadyH.cons (o := ?qb33o) ?qb33h (fun K hK => ?qb33s) AllReadyH.nil
              case qb33h => rw [List.getElem?_toArray]; rfl
              go_simp
              refine hK.out _ _ (hT.alloc _).held (fun hHeld => ?_)
              have hR : Box w (World.alloc qw32 (.cells #[.int .i64 0, .int .i64 0, .string ⟨#[]⟩] 23)) (World.heap qw32).size Val.zero := Box.new hT Val.zero
              have hQhR : g7 ≠ (World.heap qw32).size := Nat.ne_of_lt hQ.lt
              replace hT := hT.alloc (.cells #[.int .i64 0, .int .i64 0, .string ⟨#[]⟩] 23)
              replace hQ := hQ.alloc (.cells #[.int .i64 0, .int .i64 0, .string ⟨#[]⟩] 23)
              clear hK K
              try simp only [Act.put, List.setIfInBounds_toArray, List.set_cons_zero, List.set_cons_succ]
              generalize (World.heap qw32).size = g8 at hR hQhR ⊢
              generalize World.alloc qw32 (.cells #[.int .i64 0, .int .i64 0, .string ⟨#[]⟩] 23) = qw34 at hT hR hQ hHeld ⊢
              refine wpAnyH_ready (rs := [8]) (by kernel_rfl) (by simp) ?_
              refine AllReadyH.cons (o := ?qb35o) ?qb35h (fun K hK => ?qb35s) AllReadyH.nil
              case qb35h => rw [List.getElem?_toArray]; rfl
              obtain ⟨⟨z0, z1, z2⟩, y0, y1, y2⟩ := hQ.cells
              go_simp
              refine hK.out _ _ (hT.other q hQ.old).held (fun hHeld => ?_)
              clear hK K z0 z1 z2 y0 y1 y2
              try simp only [Act.put, List.setIfInBounds_toArray, List.set_cons_zero, List.set_cons_succ]
              change wpAnyH _ _ _ _ _ _ _ _ (set3 qw34 g7 q)
              replace hT := hT.other q hQ.old
              replace hR := hR.other q hQhR
              replace hQ := hQ.set q
              clear hHeld
              have hHeld := (hT).held
              generalize set3 qw34 g7 q = qw36 at hT hQ hR hHeld ⊢
              refine wpAnyH_ready (rs := [9]) (by kernel_rfl) (by simp) ?_
              refine AllReadyH.cons (o := ?qb37o) ?qb37h (fun K hK => ?qb37s) AllReadyH.nil
              case qb37h => rw [List.getElem?_toArray]; rfl
              obtain ⟨⟨z0, z1, z2⟩, y0, y1, y2⟩ := hR.cells
              go_simp
              refine hK.out _ _ (hT.other r hR.old).held (fun hHeld => ?_)
              clear hK K z0 z1 z2 y0 y1 y2
              try simp only [Act.put, List.setIfInBounds_toArray, List.set_cons_zero, List.set_cons_succ]
              change wpAnyH _ _ _ _ _ _ _ _ (set3 qw36 g8 r)
              replace hT := hT.other r hR.old
              replace hQ := hQ.other r (Ne.symm hQhR)
              replace hR := hR.set r
              clear hHeld
              have hHeld := (hT).held
              generalize set3 qw36 g8 r = qw38 at hT hR hQ hHeld ⊢
              refine wpAnyH_done (by kernel_rfl) ?_ _
              go_wp2_with fail
              go_meet
              exact ⟨g7, g8, rfl, rfl, hT, hQ, hR⟩
            case qb31s =>
              go_simp
              refine hK.out _ _ (hT.alloc _).held (fun hHeld => ?_)
              have hR : Box w (World.alloc qw29 (.cells #[.int .i64 0, .int .i64 0, .string ⟨#[]⟩] 23)) (World.heap qw29).size Val.zero := Box.new hT Val.zero
              have hQhR : g7 ≠ (World.heap qw29).size := Nat.ne_of_lt hQ.lt
              replace hT := hT.alloc (.cells #[.int .i64 0, .int .i64 0, .string ⟨#[]⟩] 23)
              replace hQ := hQ.alloc (.cells #[.int .i64 0, .int .i64 0, .string ⟨#[]⟩] 23)
              clear hK K
              try simp only [Act.put, List.setIfInBounds_toArray, List.set_cons_zero, List.set_cons_succ]
              generalize (World.heap qw29).size = g8 at hR hQhR ⊢
              generalize World.alloc qw29 (.cells #[.int .i64 0, .int .i64 0, .string ⟨#[]⟩] 23) = qw39 at hT hR hQ hHeld ⊢
              refine wpAnyH_ready (rs := [5]) (by kernel_rfl) (by simp) ?_
              refine AllReadyH.cons (o := ?qb40o) ?qb40h (fun K hK => ?qb40s) AllReadyH.nil
              case qb40h => rw [List.getElem?_toArray]; rfl
              go_simp
              with_reducible refine Calls.mono (hD2 _) ?_
              rintro e qw41 ⟨rfl, hb1⟩
              go_wp2_with fail
              refine hK.out _ _ (hT.next hb1).held (fun hHeld => ?_)
              replace hT := hT.next hb1
              replace hQ := hQ.next hb1
              replace hR := hR.next hb1
              clear hK K hb1
              try simp only [Act.put, List.setIfInBounds_toArray, List.set_cons_zero, List.set_cons_succ]
              refine wpAnyH_ready (rs := [8]) (by kernel_rfl) (by simp) ?_
              refine AllReadyH.cons (o := ?qb42o) ?qb42h (fun K hK => ?qb42s) AllReadyH.nil
              case qb42h => rw [List.getElem?_toArray]; rfl
              obtain ⟨⟨z0, z1, z2⟩, y0, y1, y2⟩ := hQ.cells
              go_simp
              refine hK.out _ _ (hT.other q hQ.old).held (fun hHeld => ?_)
              clear hK K z0 z1 z2 y0 y1 y2
              try simp only [Act.put, List.setIfInBounds_toArray, List.set_cons_zero, List.set_cons_succ]
              change wpAnyH _ _ _ _ _ _ _ _ (set3 qw41 g7 q)
              replace hT := hT.other q hQ.old
              replace hR := hR.other q hQhR
              replace hQ := hQ.set q
              clear hHeld
              have hHeld := (hT).held
              generalize set3 qw41 g7 q = qw43 at hT hQ hR hHeld ⊢
              refine wpAnyH_ready (rs := [9]) (by kernel_rfl) (by simp) ?_
              refine AllReadyH.cons (o := ?qb44o) ?qb44h (fun K hK => ?qb44s) AllReadyH.nil
              case qb44h => rw [List.getElem?_toArray]; rfl
              obtain ⟨⟨z0, z1, z2⟩, y0, y1, y2⟩ := hR.cells
              go_simp
              refine hK.out _ _ (hT.other r hR.old).held (fun hHeld => ?_)
              clear hK K z0 z1 z2 y0 y1 y2
              try simp only [Act.put, List.setIfInBounds_toArray, List.set_cons_zero, List.set_cons_succ]
              change wpAnyH _ _ _ _ _ _ _ _ (set3 qw43 g8 r)
              replace hT := hT.other r hR.old
              replace hQ := hQ.other r (Ne.symm hQhR)
              replace hR := hR.set r
              clear hHeld
              have hHeld := (hT).held
              generalize set3 qw43 g8 r = qw45 at hT hR hQ hHeld ⊢
              refine wpAnyH_done (by kernel_rfl) ?_ _
              go_wp2_with fail
              go_meet
              exact ⟨g7, g8, rfl, rfl, hT, hQ, hR⟩
          case qb11s =>
            go_simp
            refine hK.out _ _ (hT.alloc _).held (fun hHeld => ?_)
            have hR : Box w (World.alloc qw8 (.cells #[.int .i64 0, .int .i64 0, .string ⟨#[]⟩] 23)) (World.heap qw8).size Val.zero := Box.new hT Val.zero
            replace hT := hT.alloc (.cells #[.int .i64 0, .int .i64 0, .string ⟨#[]⟩] 23)
            clear hK K
            try simp only [Act.put, List.setIfInBounds_toArray, List.set_cons_zero, List.set_cons_succ]
            generalize (World.heap qw8).size = g8 at hR  ⊢
            generalize World.alloc qw8 (.cells #[.int .i64 0, .int .i64 0, .string ⟨#[]⟩] 23) = qw46 at hT hR  hHeld ⊢
            refine wpAnyH_ready (rs := [5, 6]) (by kernel_rfl) (by simp) ?_
            refine AllReadyH.cons (o := ?qb47o) ?qb47h (fun K hK => ?qb47s) (AllReadyH.cons (o := ?qb48o) ?qb48h (fun K hK => ?qb48s) AllReadyH.nil)
            case qb47h => rw [List.getElem?_toArray]; rfl
            case qb48h => rw [List.getElem?_toArray]; rfl
            case qb47s =>
              go_simp
              with_reducible refine Calls.mono (hD2 _) ?_
              rintro e qw49 ⟨rfl, hb1⟩
              go_wp2_with fail
              refine hK.out _ _ (hT.next hb1).held (fun hHeld => ?_)
              replace hT := hT.next hb1
              replace hR := hR.next hb1
              clear hK K hb1
              try simp only [Act.put, List.setIfInBounds_toArray, List.set_cons_zero, List.set_cons_succ]
              refine wpAnyH_ready (rs := [6]) (by kernel_rfl) (by simp) ?_
              refine AllReadyH.cons (o := ?qb50o) ?qb50h (fun K hK => ?qb50s) AllReadyH.nil
              case qb50h => rw [List.getElem?_toArray]; rfl
              go_simp
              refine hK.out _ _ (hT.alloc _).held (fun hHeld => ?_)
              have hQ : Box w (World.alloc qw49 (.cells #[.int .i64 0, .int .i64 0, .string ⟨#[]⟩] 23)) (World.heap qw49).size Val.zero := Box.new hT Val.zero
              have hRhQ : g8 ≠ (World.heap qw49).size := Nat.ne_of_lt hR.lt
              replace hT := hT.alloc (.cells #[.int .i64 0, .int .i64 0, .string ⟨#[]⟩] 23)
              replace hR := hR.alloc (.cells #[.int .i64 0, .int .i64 0, .string ⟨#[]⟩] 23)
              clear hK K
              try simp only [Act.put, List.setIfInBounds_toArray, List.set_cons_zero, List.set_cons_succ]
              generalize (World.heap qw49).size = g7 at hQ hRhQ ⊢
              generalize World.alloc qw49 (.cells #[.int .i64 0, .int .i64 0, .string ⟨#[]⟩] 23) = qw51 at hT hQ hR hHeld ⊢
              refine wpAnyH_ready (rs := [8]) (by kernel_rfl) (by simp) ?_
              refine AllReadyH.cons (o := ?qb52o) ?qb52h (fun K hK => ?qb52s) AllReadyH.nil
              case qb52h => rw [List.getElem?_toArray]; rfl
              obtain ⟨⟨z0, z1, z2⟩, y0, y1, y2⟩ := hQ.cells
              go_simp
              refine hK.out _ _ (hT.other q hQ.old).held (fun hHeld => ?_)
              clear hK K z0 z1 z2 y0 y1 y2
              try simp only [Act.put, List.setIfInBounds_toArray, List.set_cons_zero, List.set_cons_succ]
              change wpAnyH _ _ _ _ _ _ _ _ (set3 qw51 g7 q)
              replace hT := hT.other q hQ.old
              replace hR := hR.other q (Ne.symm hRhQ)
              replace hQ := hQ.set q
              clear hHeld
              have hHeld := (hT).held
              generalize set3 qw51 g7 q = qw53 at hT hQ hR hHeld ⊢
              refine wpAnyH_ready (rs := [9]) (by kernel_rfl) (by simp) ?_
              refine AllReadyH.cons (o := ?qb54o) ?qb54h (fun K hK => ?qb54s) AllReadyH.nil
              case qb54h => rw [List.getElem?_toArray]; rfl
              obtain ⟨⟨z0, z1, z2⟩, y0, y1, y2⟩ := hR.cells
              go_simp
              refine hK.out _ _ (hT.other r hR.old).held (fun hHeld => ?_)
              clear hK K z0 z1 z2 y0 y1 y2
              try simp only [Act.put, List.setIfInBounds_toArray, List.set_cons_zero, List.set_cons_succ]
              change wpAnyH _ _ _ _ _ _ _ _ (set3 qw53 g8 r)
              replace hT := hT.other r hR.old
              replace hQ := hQ.other r hRhQ
              replace hR := hR.set r
              clear hHeld
              have hHeld := (hT).held
              generalize set3 qw53 g8 r = qw55 at hT hR hQ hHeld ⊢
              refine wpAnyH_done (by kernel_rfl) ?_ _
              go_wp2_with fail
              go_meet
              exact ⟨g7, g8, rfl, rfl, hT, hQ, hR⟩
            case qb48s =>
              go_simp
              refine hK.out _ _ (hT.alloc _).held (fun hHeld => ?_)
              have hQ : Box w (World.alloc qw46 (.cells #[.int .i64 0, .int .i64 0, .string ⟨#[]⟩] 23)) (World.heap qw46).size Val.zero := Box.new hT Val.zero
              have hRhQ : g8 ≠ (World.heap qw46).size := Nat.ne_of_lt hR.lt
              replace hT := hT.alloc (.cells #[.int .i64 0, .int .i64 0, .string ⟨#[]⟩] 23)
              replace hR := hR.alloc (.cells #[.int .i64 0, .int .i64 0, .string ⟨#[]⟩] 23)
              clear hK K
              try simp only [Act.put, List.setIfInBounds_toArray, List.set_cons_zero, List.set_cons_succ]
              generalize (World.heap qw46).size = g7 at hQ hRhQ ⊢
              generalize World.alloc qw46 (.cells #[.int .i64 0, .int .i64 0, .string ⟨#[]⟩] 23) = qw56 at hT hQ hR hHeld ⊢
              refine wpAnyH_ready (rs := [5]) (by kernel_rfl) (by simp) ?_
              refine AllReadyH.cons (o := ?qb57o) ?qb57h (fun K hK => ?qb57s) AllReadyH.nil
              case qb57h => rw [List.getElem?_toArray]; rfl
              go_simp
              with_reducible refine Calls.mono (hD2 _) ?_
              rintro e qw58 ⟨rfl, hb1⟩
              go_wp2_with fail
              refine hK.out _ _ (hT.next hb1).held (fun hHeld => ?_)
              replace hT := hT.next hb1
              replace hR := hR.next hb1
              replace hQ := hQ.next hb1
              clear hK K hb1
              try simp only [Act.put, List.setIfInBounds_toArray, List.set_cons_zero, List.set_cons_succ]
              refine wpAnyH_ready (rs := [8]) (by kernel_rfl) (by simp) ?_
              refine AllReadyH.cons (o := ?qb59o) ?qb59h (fun K hK => ?qb59s) AllReadyH.nil
              case qb59h => rw [List.getElem?_toArray]; rfl
              obtain ⟨⟨z0, z1, z2⟩, y0, y1, y2⟩ := hQ.cells
              go_simp
              refine hK.out _ _ (hT.other q hQ.old).held (fun hHeld => ?_)
              clear hK K z0 z1 z2 y0 y1 y2
              try simp only [Act.put, List.setIfInBounds_toArray, List.set_cons_zero, List.set_cons_succ]
              change wpAnyH _ _ _ _ _ _ _ _ (set3 qw58 g7 q)
              replace hT := hT.other q hQ.old
              replace hR := hR.other q (Ne.symm hRhQ)
              replace hQ := hQ.set q
              clear hHeld
              have hHeld := (hT).held
              generalize set3 qw58 g7 q = qw60 at hT hQ hR hHeld ⊢
              refine wpAnyH_ready (rs := [9]) (by kernel_rfl) (by simp) ?_
              refine AllReadyH.cons (o := ?qb61o) ?qb61h (fun K hK => ?qb61s) AllReadyH.nil
              case qb61h => rw [List.getElem?_toArray]; rfl
              obtain ⟨⟨z0, z1, z2⟩, y0, y1, y2⟩ := hR.cells
              go_simp
              refine hK.out _ _ (hT.other r hR.old).held (fun hHeld => ?_)
              clear hK K z0 z1 z2 y0 y1 y2
              try simp only [Act.put, List.setIfInBounds_toArray, List.set_cons_zero, List.set_cons_succ]
              change wpAnyH _ _ _ _ _ _ _ _ (set3 qw60 g8 r)
              replace hT := hT.other r hR.old
              replace hQ := hQ.other r hRhQ
              replace hR := hR.set r
              clear hHeld
              have hHeld := (hT).held
              generalize set3 qw60 g8 r = qw62 at hT hR hQ hHeld ⊢
              refine wpAnyH_done (by kernel_rfl) ?_ _
              go_wp2_with fail
              go_meet
              exact ⟨g7, g8, rfl, rfl, hT, hQ, hR⟩
        case qb6s =>
          go_simp
          refine hK.out _ _ (hT.alloc _).held (fun hHeld => ?_)
          have hQ : Box w (World.alloc W0 (.cells #[.int .i64 0, .int .i64 0, .string ⟨#[]⟩] 23)) (World.heap W0).size Val.zero := Box.new hT Val.zero
          replace hT := hT.alloc (.cells #[.int .i64 0, .int .i64 0, .string ⟨#[]⟩] 23)
          clear hK K
          try simp only [Act.put, List.setIfInBounds_toArray, List.set_cons_zero, List.set_cons_succ]
          generalize (World.heap W0).size = g7 at hQ  ⊢
          generalize World.alloc W0 (.cells #[.int .i64 0, .int .i64 0, .string ⟨#[]⟩] 23) = qw63 at hT hQ  hHeld ⊢
          refine wpAnyH_ready (rs := [2, 7]) (by kernel_rfl) (by simp) ?_
          refine AllReadyH.cons (o := ?qb64o) ?qb64h (fun K hK => ?qb64s) (AllReadyH.cons (o := ?qb65o) ?qb65h (fun K hK => ?qb65s) AllReadyH.nil)
          case qb64h => rw [List.getElem?_toArray]; rfl
          case qb65h => rw [List.getElem?_toArray]; rfl
          case qb64s =>
            go_simp
            with_reducible refine Calls.mono (hD1 _) ?_
            rintro e qw66 ⟨rfl, hb1⟩
            go_wp2_with fail
            refine hK.out _ _ (hT.next hb1).held (fun hHeld => ?_)
            replace hT := hT.next hb1
            replace hQ := hQ.next hb1
            clear hK K hb1
            try simp only [Act.put, List.setIfInBounds_toArray, List.set_cons_zero, List.set_cons_succ]
            refine wpAnyH_ready (rs := [5, 7]) (by kernel_rfl) (by simp) ?_
            refine AllReadyH.cons (o := ?qb67o) ?qb67h (fun K hK => ?qb67s) (AllReadyH.cons (o := ?qb68o) ?qb68h (fun K hK => ?qb68s) AllReadyH.nil)
            case qb67h => rw [List.getElem?_toArray]; rfl
            case qb68h => rw [List.getElem?_toArray]; rfl
            case qb67s =>
              go_simp
              with_reducible refine Calls.mono (hD2 _) ?_
              rintro e qw69 ⟨rfl, hb1⟩
              go_wp2_with fail
              refine hK.out _ _ (hT.next hb1).held (fun hHeld => ?_)
              replace hT := hT.next hb1
              replace hQ := hQ.next hb1
              clear hK K hb1
              try simp only [Act.put, List.setIfInBounds_toArray, List.set_cons_zero, List.set_cons_succ]
              refine wpAnyH_ready (rs := [7]) (by kernel_rfl) (by simp) ?_
              refine AllReadyH.cons (o := ?qb70o) ?qb70h (fun K hK => ?qb70s) AllReadyH.nil
              case qb70h => rw [List.getElem?_toArray]; rfl
              go_simp
              refine hK.out _ _ (hT.alloc _).held (fun hHeld => ?_)
              have hR : Box w (World.alloc qw69 (.cells #[.int .i64 0, .int .i64 0, .string ⟨#[]⟩] 23)) (World.heap qw69).size Val.zero := Box.new hT Val.zero
              have hQhR : g7 ≠ (World.heap qw69).size := Nat.ne_of_lt hQ.lt
              replace hT := hT.alloc (.cells #[.int .i64 0, .int .i64 0, .string ⟨#[]⟩] 23)
              replace hQ := hQ.alloc (.cells #[.int .i64 0, .int .i64 0, .string ⟨#[]⟩] 23)
              clear hK K
              try simp only [Act.put, List.setIfInBounds_toArray, List.set_cons_zero, List.set_cons_succ]
              generalize (World.heap qw69).size = g8 at hR hQhR ⊢
              generalize World.alloc qw69 (.cells #[.int .i64 0, .int .i64 0, .string ⟨#[]⟩] 23) = qw71 at hT hR hQ hHeld ⊢
              refine wpAnyH_ready (rs := [8]) (by kernel_rfl) (by simp) ?_
              refine AllReadyH.cons (o := ?qb72o) ?qb72h (fun K hK => ?qb72s) AllReadyH.nil
              case qb72h => rw [List.getElem?_toArray]; rfl
              obtain ⟨⟨z0, z1, z2⟩, y0, y1, y2⟩ := hQ.cells
              go_simp
              refine hK.out _ _ (hT.other q hQ.old).held (fun hHeld => ?_)
              clear hK K z0 z1 z2 y0 y1 y2
              try simp only [Act.put, List.setIfInBounds_toArray, List.set_cons_zero, List.set_cons_succ]
              change wpAnyH _ _ _ _ _ _ _ _ (set3 qw71 g7 q)
              replace hT := hT.other q hQ.old
              replace hR := hR.other q hQhR
              replace hQ := hQ.set q
              clear hHeld
              have hHeld := (hT).held
              generalize set3 qw71 g7 q = qw73 at hT hQ hR hHeld ⊢
              refine wpAnyH_ready (rs := [9]) (by kernel_rfl) (by simp) ?_
              refine AllReadyH.cons (o := ?qb74o) ?qb74h (fun K hK => ?qb74s) AllReadyH.nil
              case qb74h => rw [List.getElem?_toArray]; rfl
              obtain ⟨⟨z0, z1, z2⟩, y0, y1, y2⟩ := hR.cells
              go_simp
              refine hK.out _ _ (hT.other r hR.old).held (fun hHeld => ?_)
              clear hK K z0 z1 z2 y0 y1 y2
              try simp only [Act.put, List.setIfInBounds_toArray, List.set_cons_zero, List.set_cons_succ]
              change wpAnyH _ _ _ _ _ _ _ _ (set3 qw73 g8 r)
              replace hT := hT.other r hR.old
              replace hQ := hQ.other r (Ne.symm hQhR)
              replace hR := hR.set r
              clear hHeld
              have hHeld := (hT).held
              generalize set3 qw73 g8 r = qw75 at hT hR hQ hHeld ⊢
              refine wpAnyH_done (by kernel_rfl) ?_ _
              go_wp2_with fail
              go_meet
              exact ⟨g7, g8, rfl, rfl, hT, hQ, hR⟩
            case qb68s =>
              go_simp
              refine hK.out _ _ (hT.alloc _).held (fun hHeld => ?_)
              have hR : Box w (World.alloc qw66 (.cells #[.int .i64 0, .int .i64 0, .string ⟨#[]⟩] 23)) (World.heap qw66).size Val.zero := Box.new hT Val.zero
              have hQhR : g7 ≠ (World.heap qw66).size := Nat.ne_of_lt hQ.lt
              replace hT := hT.alloc (.cells #[.int .i64 0, .int .i64 0, .string ⟨#[]⟩] 23)
              replace hQ := hQ.alloc (.cells #[.int .i64 0, .int .i64 0, .string ⟨#[]⟩] 23)
              clear hK K
              try simp only [Act.put, List.setIfInBounds_toArray, List.set_cons_zero, List.set_cons_succ]
              generalize (World.heap qw66).size = g8 at hR hQhR ⊢
              generalize World.alloc qw66 (.cells #[.int .i64 0, .int .i64 0, .string ⟨#[]⟩] 23) = qw76 at hT hR hQ hHeld ⊢
              refine wpAnyH_ready (rs := [5]) (by kernel_rfl) (by simp) ?_
              refine AllReadyH.cons (o := ?qb77o) ?qb77h (fun K hK => ?qb77s) AllReadyH.nil
              case qb77h => rw [List.getElem?_toArray]; rfl
              go_simp
              with_reducible refine Calls.mono (hD2 _) ?_
              rintro e qw78 ⟨rfl, hb1⟩
              go_wp2_with fail
              refine hK.out _ _ (hT.next hb1).held (fun hHeld => ?_)
              replace hT := hT.next hb1
              replace hQ := hQ.next hb1
              replace hR := hR.next hb1
              clear hK K hb1
              try simp only [Act.put, List.setIfInBounds_toArray, List.set_cons_zero, List.set_cons_succ]
              refine wpAnyH_ready (rs := [8]) (by kernel_rfl) (by simp) ?_
              refine AllReadyH.cons (o := ?qb79o) ?qb79h (fun K hK => ?qb79s) AllReadyH.nil
              case qb79h => rw [List.getElem?_toArray]; rfl
              obtain ⟨⟨z0, z1, z2⟩, y0, y1, y2⟩ := hQ.cells
              go_simp
              refine hK.out _ _ (hT.other q hQ.old).held (fun hHeld => ?_)
              clear hK K z0 z1 z2 y0 y1 y2
              try simp only [Act.put, List.setIfInBounds_toArray, List.set_cons_zero, List.set_cons_succ]
              change wpAnyH _ _ _ _ _ _ _ _ (set3 qw78 g7 q)
              replace hT := hT.other q hQ.old
              replace hR := hR.other q hQhR
              replace hQ := hQ.set q
              clear hHeld
              have hHeld := (hT).held
              generalize set3 qw78 g7 q = qw80 at hT hQ hR hHeld ⊢
              refine wpAnyH_ready (rs := [9]) (by kernel_rfl) (by simp) ?_
              refine AllReadyH.cons (o := ?qb81o) ?qb81h (fun K hK => ?qb81s) AllReadyH.nil
              case qb81h => rw [List.getElem?_toArray]; rfl
              obtain ⟨⟨z0, z1, z2⟩, y0, y1, y2⟩ := hR.cells
              go_simp
              refine hK.out _ _ (hT.other r hR.old).held (fun hHeld => ?_)
              clear hK K z0 z1 z2 y0 y1 y2
              try simp only [Act.put, List.setIfInBounds_toArray, List.set_cons_zero, List.set_cons_succ]
              change wpAnyH _ _ _ _ _ _ _ _ (set3 qw80 g8 r)
              replace hT := hT.other r hR.old
              replace hQ := hQ.other r (Ne.symm hQhR)
              replace hR := hR.set r
              clear hHeld
              have hHeld := (hT).held
              generalize set3 qw80 g8 r = qw82 at hT hR hQ hHeld ⊢
              refine wpAnyH_done (by kernel_rfl) ?_ _
              go_wp2_with fail
              go_meet
              exact ⟨g7, g8, rfl, rfl, hT, hQ, hR⟩
          case qb65s =>
            go_simp
            refine hK.out _ _ (hT.alloc _).held (fun hHeld => ?_)
            have hR : Box w (World.alloc qw63 (.cells #[.int .i64 0, .int .i64 0, .string ⟨#[]⟩] 23)) (World.heap qw63).size Val.zero := Box.new hT Val.zero
            have hQhR : g7 ≠ (World.heap qw63).size := Nat.ne_of_lt hQ.lt
            replace hT := hT.alloc (.cells #[.int .i64 0, .int .i64 0, .string ⟨#[]⟩] 23)
            replace hQ := hQ.alloc (.cells #[.int .i64 0, .int .i64 0, .string ⟨#[]⟩] 23)
            clear hK K
            try simp only [Act.put, List.setIfInBounds_toArray, List.set_cons_zero, List.set_cons_succ]
            generalize (World.heap qw63).size = g8 at hR hQhR ⊢
            generalize World.alloc qw63 (.cells #[.int .i64 0, .int .i64 0, .string ⟨#[]⟩] 23) = qw83 at hT hR hQ hHeld ⊢
            refine wpAnyH_ready (rs := [2]) (by kernel_rfl) (by simp) ?_
            refine AllReadyH.cons (o := ?qb84o) ?qb84h (fun K hK => ?qb84s) AllReadyH.nil
            case qb84h => rw [List.getElem?_toArray]; rfl
            go_simp
            with_reducible refine Calls.mono (hD1 _) ?_
            rintro e qw85 ⟨rfl, hb1⟩
            go_wp2_with fail
            refine hK.out _ _ (hT.next hb1).held (fun hHeld => ?_)
            replace hT := hT.next hb1
            replace hQ := hQ.next hb1
            replace hR := hR.next hb1
            clear hK K hb1
            try simp only [Act.put, List.setIfInBounds_toArray, List.set_cons_zero, List.set_cons_succ]
            refine wpAnyH_ready (rs := [5]) (by kernel_rfl) (by simp) ?_
            refine AllReadyH.cons (o := ?qb86o) ?qb86h (fun K hK => ?qb86s) AllReadyH.nil
            case qb86h => rw [List.getElem?_toArray]; rfl
            go_simp
            with_reducible refine Calls.mono (hD2 _) ?_
            rintro e qw87 ⟨rfl, hb1⟩
            go_wp2_with fail
            refine hK.out _ _ (hT.next hb1).held (fun hHeld => ?_)
            replace hT := hT.next hb1
            replace hQ := hQ.next hb1
            replace hR := hR.next hb1
            clear hK K hb1
            try simp only [Act.put, List.setIfInBounds_toArray, List.set_cons_zero, List.set_cons_succ]
            refine wpAnyH_ready (rs := [8]) (by kernel_rfl) (by simp) ?_
            refine AllReadyH.cons (o := ?qb88o) ?qb88h (fun K hK => ?qb88s) AllReadyH.nil
            case qb88h => rw [List.getElem?_toArray]; rfl
            obtain ⟨⟨z0, z1, z2⟩, y0, y1, y2⟩ := hQ.cells
            go_simp
            refine hK.out _ _ (hT.other q hQ.old).held (fun hHeld => ?_)
            clear hK K z0 z1 z2 y0 y1 y2
            try simp only [Act.put, List.setIfInBounds_toArray, List.set_cons_zero, List.set_cons_succ]
            change wpAnyH _ _ _ _ _ _ _ _ (set3 qw87 g7 q)
            replace hT := hT.other q hQ.old
            replace hR := hR.other q hQhR
            replace hQ := hQ.set q
            clear hHeld
            have hHeld := (hT).held
            generalize set3 qw87 g7 q = qw89 at hT hQ hR hHeld ⊢
            refine wpAnyH_ready (rs := [9]) (by kernel_rfl) (by simp) ?_
            refine AllReadyH.cons (o := ?qb90o) ?qb90h (fun K hK => ?qb90s) AllReadyH.nil
            case qb90h => rw [List.getElem?_toArray]; rfl
            obtain ⟨⟨z0, z1, z2⟩, y0, y1, y2⟩ := hR.cells
            go_simp
            refine hK.out _ _ (hT.other r hR.old).held (fun hHeld => ?_)
            clear hK K z0 z1 z2 y0 y1 y2
            try simp only [Act.put, List.setIfInBounds_toArray, List.set_cons_zero, List.set_cons_succ]
            change wpAnyH _ _ _ _ _ _ _ _ (set3 qw89 g8 r)
            replace hT := hT.other r hR.old
            replace hQ := hQ.other r (Ne.symm hQhR)
            replace hR := hR.set r
            clear hHeld
            have hHeld := (hT).held
            generalize set3 qw89 g8 r = qw91 at hT hR hQ hHeld ⊢
            refine wpAnyH_done (by kernel_rfl) ?_ _
            go_wp2_with fail
            go_meet
            exact ⟨g7, g8, rfl, rfl, hT, hQ, hR⟩
        case qb7s =>
          go_simp
          refine hK.out _ _ (hT.alloc _).held (fun hHeld => ?_)
          have hR : Box w (World.alloc W0 (.cells #[.int .i64 0, .int .i64 0, .string ⟨#[]⟩] 23)) (World.heap W0).size Val.zero := Box.new hT Val.zero
          replace hT := hT.alloc (.cells #[.int .i64 0, .int .i64 0, .string ⟨#[]⟩] 23)
          clear hK K
          try simp only [Act.put, List.setIfInBounds_toArray, List.set_cons_zero, List.set_cons_succ]
          generalize (World.heap W0).size = g8 at hR  ⊢
          generalize World.alloc W0 (.cells #[.int .i64 0, .int .i64 0, .string ⟨#[]⟩] 23) = qw92 at hT hR  hHeld ⊢
          refine wpAnyH_ready (rs := [2, 6]) (by kernel_rfl) (by simp) ?_
          refine AllReadyH.cons (o := ?qb93o) ?qb93h (fun K hK => ?qb93s) (AllReadyH.cons (o := ?qb94o) ?qb94h (fun K hK => ?qb94s) AllReadyH.nil)
          case qb93h => rw [List.getElem?_toArray]; rfl
          case qb94h => rw [List.getElem?_toArray]; rfl
          case qb93s =>
            go_simp
            with_reducible refine Calls.mono (hD1 _) ?_
            rintro e qw95 ⟨rfl, hb1⟩
            go_wp2_with fail
            refine hK.out _ _ (hT.next hb1).held (fun hHeld => ?_)
            replace hT := hT.next hb1
            replace hR := hR.next hb1
            clear hK K hb1
            try simp only [Act.put, List.setIfInBounds_toArray, List.set_cons_zero, List.set_cons_succ]
            refine wpAnyH_ready (rs := [5, 6]) (by kernel_rfl) (by simp) ?_
            refine AllReadyH.cons (o := ?qb96o) ?qb96h (fun K hK => ?qb96s) (AllReadyH.cons (o := ?qb97o) ?qb97h (fun K hK => ?qb97s) AllReadyH.nil)
            case qb96h => rw [List.getElem?_toArray]; rfl
            case qb97h => rw [List.getElem?_toArray]; rfl
            case qb96s =>
              go_simp
              with_reducible refine Calls.mono (hD2 _) ?_
              rintro e qw98 ⟨rfl, hb1⟩
              go_wp2_with fail
              refine hK.out _ _ (hT.next hb1).held (fun hHeld => ?_)
              replace hT := hT.next hb1
              replace hR := hR.next hb1
              clear hK K hb1
              try simp only [Act.put, List.setIfInBounds_toArray, List.set_cons_zero, List.set_cons_succ]
              refine wpAnyH_ready (rs := [6]) (by kernel_rfl) (by simp) ?_
              refine AllReadyH.cons (o := ?qb99o) ?qb99h (fun K hK => ?qb99s) AllReadyH.nil
              case qb99h => rw [List.getElem?_toArray]; rfl
              go_simp
              refine hK.out _ _ (hT.alloc _).held (fun hHeld => ?_)
              have hQ : Box w (World.alloc qw98 (.cells #[.int .i64 0, .int .i64 0, .string ⟨#[]⟩] 23)) (World.heap qw98).size Val.zero := Box.new hT Val.zero
              have hRhQ : g8 ≠ (World.heap qw98).size := Nat.ne_of_lt hR.lt
              replace hT := hT.alloc (.cells #[.int .i64 0, .int .i64 0, .string ⟨#[]⟩] 23)
              replace hR := hR.alloc (.cells #[.int .i64 0, .int .i64 0, .string ⟨#[]⟩] 23)
              clear hK K
              try simp only [Act.put, List.setIfInBounds_toArray, List.set_cons_zero, List.set_cons_succ]
              generalize (World.heap qw98).size = g7 at hQ hRhQ ⊢
              generalize World.alloc qw98 (.cells #[.int .i64 0, .int .i64 0, .string ⟨#[]⟩] 23) = qw100 at hT hQ hR hHeld ⊢
              refine wpAnyH_ready (rs := [8]) (by kernel_rfl) (by simp) ?_
              refine AllReadyH.cons (o := ?qb101o) ?qb101h (fun K hK => ?qb101s) AllReadyH.nil
              case qb101h => rw [List.getElem?_toArray]; rfl
              obtain ⟨⟨z0, z1, z2⟩, y0, y1, y2⟩ := hQ.cells
              go_simp
              refine hK.out _ _ (hT.other q hQ.old).held (fun hHeld => ?_)
              clear hK K z0 z1 z2 y0 y1 y2
              try simp only [Act.put, List.setIfInBounds_toArray, List.set_cons_zero, List.set_cons_succ]
              change wpAnyH _ _ _ _ _ _ _ _ (set3 qw100 g7 q)
              replace hT := hT.other q hQ.old
              replace hR := hR.other q (Ne.symm hRhQ)
              replace hQ := hQ.set q
              clear hHeld
              have hHeld := (hT).held
              generalize set3 qw100 g7 q = qw102 at hT hQ hR hHeld ⊢
              refine wpAnyH_ready (rs := [9]) (by kernel_rfl) (by simp) ?_
              refine AllReadyH.cons (o := ?qb103o) ?qb103h (fun K hK => ?qb103s) AllReadyH.nil
              case qb103h => rw [List.getElem?_toArray]; rfl
              obtain ⟨⟨z0, z1, z2⟩, y0, y1, y2⟩ := hR.cells
              go_simp
              refine hK.out _ _ (hT.other r hR.old).held (fun hHeld => ?_)
              clear hK K z0 z1 z2 y0 y1 y2
              try simp only [Act.put, List.setIfInBounds_toArray, List.set_cons_zero, List.set_cons_succ]
              change wpAnyH _ _ _ _ _ _ _ _ (set3 qw102 g8 r)
              replace hT := hT.other r hR.old
              replace hQ := hQ.other r hRhQ
              replace hR := hR.set r
              clear hHeld
              have hHeld := (hT).held
              generalize set3 qw102 g8 r = qw104 at hT hR hQ hHeld ⊢
              refine wpAnyH_done (by kernel_rfl) ?_ _
              go_wp2_with fail
              go_meet
              exact ⟨g7, g8, rfl, rfl, hT, hQ, hR⟩
            case qb97s =>
              go_simp
              refine hK.out _ _ (hT.alloc _).held (fun hHeld => ?_)
              have hQ : Box w (World.alloc qw95 (.cells #[.int .i64 0, .int .i64 0, .string ⟨#[]⟩] 23)) (World.heap qw95).size Val.zero := Box.new hT Val.zero
              have hRhQ : g8 ≠ (World.heap qw95).size := Nat.ne_of_lt hR.lt
              replace hT := hT.alloc (.cells #[.int .i64 0, .int .i64 0, .string ⟨#[]⟩] 23)
              replace hR := hR.alloc (.cells #[.int .i64 0, .int .i64 0, .string ⟨#[]⟩] 23)
              clear hK K
              try simp only [Act.put, List.setIfInBounds_toArray, List.set_cons_zero, List.set_cons_succ]
              generalize (World.heap qw95).size = g7 at hQ hRhQ ⊢
              generalize World.alloc qw95 (.cells #[.int .i64 0, .int .i64 0, .string ⟨#[]⟩] 23) = qw105 at hT hQ hR hHeld ⊢
              refine wpAnyH_ready (rs := [5]) (by kernel_rfl) (by simp) ?_
              refine AllReadyH.cons (o := ?qb106o) ?qb106h (fun K hK => ?qb106s) AllReadyH.nil
              case qb106h => rw [List.getElem?_toArray]; rfl
              go_simp
              with_reducible refine Calls.mono (hD2 _) ?_
              rintro e qw107 ⟨rfl, hb1⟩
              go_wp2_with fail
              refine hK.out _ _ (hT.next hb1).held (fun hHeld => ?_)
              replace hT := hT.next hb1
              replace hR := hR.next hb1
              replace hQ := hQ.next hb1
              clear hK K hb1
              try simp only [Act.put, List.setIfInBounds_toArray, List.set_cons_zero, List.set_cons_succ]
              refine wpAnyH_ready (rs := [8]) (by kernel_rfl) (by simp) ?_
              refine AllReadyH.cons (o := ?qb108o) ?qb108h (fun K hK => ?qb108s) AllReadyH.nil
              case qb108h => rw [List.getElem?_toArray]; rfl
              obtain ⟨⟨z0, z1, z2⟩, y0, y1, y2⟩ := hQ.cells
              go_simp
              refine hK.out _ _ (hT.other q hQ.old).held (fun hHeld => ?_)
              clear hK K z0 z1 z2 y0 y1 y2
              try simp only [Act.put, List.setIfInBounds_toArray, List.set_cons_zero, List.set_cons_succ]
              change wpAnyH _ _ _ _ _ _ _ _ (set3 qw107 g7 q)
              replace hT := hT.other q hQ.old
              replace hR := hR.other q (Ne.symm hRhQ)
              replace hQ := hQ.set q
              clear hHeld
              have hHeld := (hT).held
              generalize set3 qw107 g7 q = qw109 at hT hQ hR hHeld ⊢
              refine wpAnyH_ready (rs := [9]) (by kernel_rfl) (by simp) ?_
              refine AllReadyH.cons (o := ?qb110o) ?qb110h (fun K hK => ?qb110s) AllReadyH.nil
              case qb110h => rw [List.getElem?_toArray]; rfl
              obtain ⟨⟨z0, z1, z2⟩, y0, y1, y2⟩ := hR.cells
              go_simp
              refine hK.out _ _ (hT.other r hR.old).held (fun hHeld => ?_)
              clear hK K z0 z1 z2 y0 y1 y2
              try simp only [Act.put, List.setIfInBounds_toArray, List.set_cons_zero, List.set_cons_succ]
              change wpAnyH _ _ _ _ _ _ _ _ (set3 qw109 g8 r)
              replace hT := hT.other r hR.old
              replace hQ := hQ.other r hRhQ
              replace hR := hR.set r
              clear hHeld
              have hHeld := (hT).held
              generalize set3 qw109 g8 r = qw111 at hT hR hQ hHeld ⊢
              refine wpAnyH_done (by kernel_rfl) ?_ _
              go_wp2_with fail
              go_meet
              exact ⟨g7, g8, rfl, rfl, hT, hQ, hR⟩
          case qb94s =>
            go_simp
            refine hK.out _ _ (hT.alloc _).held (fun hHeld => ?_)
            have hQ : Box w (World.alloc qw92 (.cells #[.int .i64 0, .int .i64 0, .string ⟨#[]⟩] 23)) (World.heap qw92).size Val.zero := Box.new hT Val.zero
            have hRhQ : g8 ≠ (World.heap qw92).size := Nat.ne_of_lt hR.lt
            replace hT := hT.alloc (.cells #[.int .i64 0, .int .i64 0, .string ⟨#[]⟩] 23)
            replace hR := hR.alloc (.cells #[.int .i64 0, .int .i64 0, .string ⟨#[]⟩] 23)
            clear hK K
            try simp only [Act.put, List.setIfInBounds_toArray, List.set_cons_zero, List.set_cons_succ]
            generalize (World.heap qw92).size = g7 at hQ hRhQ ⊢
            generalize World.alloc qw92 (.cells #[.int .i64 0, .int .i64 0, .string ⟨#[]⟩] 23) = qw112 at hT hQ hR hHeld ⊢
            refine wpAnyH_ready (rs := [2]) (by kernel_rfl) (by simp) ?_
            refine AllReadyH.cons (o := ?qb113o) ?qb113h (fun K hK => ?qb113s) AllReadyH.nil
            case qb113h => rw [List.getElem?_toArray]; rfl
            go_simp
            with_reducible refine Calls.mono (hD1 _) ?_
            rintro e qw114 ⟨rfl, hb1⟩
            go_wp2_with fail
            refine hK.out _ _ (hT.next hb1).held (fun hHeld => ?_)
            replace hT := hT.next hb1
            replace hR := hR.next hb1
            replace hQ := hQ.next hb1
            clear hK K hb1
            try simp only [Act.put, List.setIfInBounds_toArray, List.set_cons_zero, List.set_cons_succ]
            refine wpAnyH_ready (rs := [5]) (by kernel_rfl) (by simp) ?_
            refine AllReadyH.cons (o := ?qb115o) ?qb115h (fun K hK => ?qb115s) AllReadyH.nil
            case qb115h => rw [List.getElem?_toArray]; rfl
            go_simp
            with_reducible refine Calls.mono (hD2 _) ?_
            rintro e qw116 ⟨rfl, hb1⟩
            go_wp2_with fail
            refine hK.out _ _ (hT.next hb1).held (fun hHeld => ?_)
            replace hT := hT.next hb1
            replace hR := hR.next hb1
            replace hQ := hQ.next hb1
            clear hK K hb1
            try simp only [Act.put, List.setIfInBounds_toArray, List.set_cons_zero, List.set_cons_succ]
            refine wpAnyH_ready (rs := [8]) (by kernel_rfl) (by simp) ?_
            refine AllReadyH.cons (o := ?qb117o) ?qb117h (fun K hK => ?qb117s) AllReadyH.nil
            case qb117h => rw [List.getElem?_toArray]; rfl
            obtain ⟨⟨z0, z1, z2⟩, y0, y1, y2⟩ := hQ.cells
            go_simp
            refine hK.out _ _ (hT.other q hQ.old).held (fun hHeld => ?_)
            clear hK K z0 z1 z2 y0 y1 y2
            try simp only [Act.put, List.setIfInBounds_toArray, List.set_cons_zero, List.set_cons_succ]
            change wpAnyH _ _ _ _ _ _ _ _ (set3 qw116 g7 q)
            replace hT := hT.other q hQ.old
            replace hR := hR.other q (Ne.symm hRhQ)
            replace hQ := hQ.set q
            clear hHeld
            have hHeld := (hT).held
            generalize set3 qw116 g7 q = qw118 at hT hQ hR hHeld ⊢
            refine wpAnyH_ready (rs := [9]) (by kernel_rfl) (by simp) ?_
            refine AllReadyH.cons (o := ?qb119o) ?qb119h (fun K hK => ?qb119s) AllReadyH.nil
            case qb119h => rw [List.getElem?_toArray]; rfl
            obtain ⟨⟨z0, z1, z2⟩, y0, y1, y2⟩ := hR.cells
            go_simp
            refine hK.out _ _ (hT.other r hR.old).held (fun hHeld => ?_)
            clear hK K z0 z1 z2 y0 y1 y2
            try simp only [Act.put, List.setIfInBounds_toArray, List.set_cons_zero, List.set_cons_succ]
            change wpAnyH _ _ _ _ _ _ _ _ (set3 qw118 g8 r)
            replace hT := hT.other r hR.old
            replace hQ := hQ.other r hRhQ
            replace hR := hR.set r
            clear hHeld
            have hHeld := (hT).held
            generalize set3 qw118 g8 r = qw120 at hT hR hQ hHeld ⊢
            refine wpAnyH_done (by kernel_rfl) ?_ _
            go_wp2_with fail
            go_meet
            exact ⟨g7, g8, rfl, rfl, hT, hQ, hR⟩
      case rest =>
        obtain ⟨g7, g8, rfl, rfl, hT, hQ, hR⟩ := hcut
        clear hnq hD1 hD2
        obtain ⟨⟨x0, x1, x2⟩, _⟩ := hQ.cells
        obtain ⟨⟨y0, y1, y2⟩, _⟩ := hR.cells
        by_cases hq : q.k = 2
        · have hq2 : (q.k == 2) = true := by simp [hq]
          replace hq : Shut (q.k = 2) := hq
          by_cases hr : r.k = 2
          · have hr2 : (r.k == 2) = true := by simp [hr]
            replace hr : Shut (r.k = 2) := hr
            have hM1 : ∀ W, Calls Tryz.prog 13 #[.agg #[.int .i64 q.k, .int .i64 q.n, .string q.s], .agg #[.int .i64 k', .int .i64 n', .string s']] W fun e W' => ∃ m : Val, e = .returned (.agg #[.int .i64 m.k, .int .i64 m.n, .string m.s]) ∧ Shut (MulV q ⟨k', n', s'⟩ m) ∧ Below W.heap.size W W' :=
              fun W => Tryz.mulV q ⟨k', n', s'⟩ (by rw [hqr0.out.1]; exact divV_size _ _) hb W
            obtain ⟨⟨c0, c1, c2⟩, ⟨d0, d1, d2⟩, _⟩ := hT.cells
            go_wp2_with (go_at_call 13; with_reducible refine Calls.mono (hM1 _) ?_; rintro e w1 ⟨m, rfl, hm, hb1⟩; replace hT := hT.next hb1; replace hR := hR.next hb1; clear hb1)
            clear hQ
            have hQ := Box.new hT m
            replace hT := hT.alloc (.cells #[.int .i64 m.k, .int .i64 m.n, .string m.s] 23)
            replace hR := hR.alloc (.cells #[.int .i64 m.k, .int .i64 m.n, .string m.s] 23)
            generalize World.alloc w1 (.cells #[.int .i64 m.k, .int .i64 m.n, .string m.s] 23) = wd at hT hR hQ ⊢
            generalize (World.heap w1).size = g9 at hQ ⊢
            by_cases hm2 : m.k = 2
            · have hA : Proofs.addV m r = ⟨k, n, s⟩ := div_mod_back hqr0.out hq.out hr.out hm.out hm2
              have hA1 : ∀ W, Calls Tryz.prog 10 #[.agg #[.int .i64 m.k, .int .i64 m.n, .string m.s], .agg #[.int .i64 r.k, .int .i64 r.n, .string r.s]] W fun e W' => e = .returned (.agg #[.int .i64 k, .int .i64 n, .string s]) ∧ Below W.heap.size W W' := fun W => by
                have h := Tryz.addV m r (mulV_size hm.out) (by rw [hqr0.out.2]; exact modV_size _ _) W
                rw [hA] at h
                exact h
              have hna : ∀ W : World, (binOp .neq 23 (.agg #[.int .i64 k, .int .i64 n, .string s]) (.agg #[.int .i64 k, .int .i64 n, .string s])).run Tryz.prog W = .ok (.bool false) W := neq23_self ⟨k, n, s⟩
              have hmb : (m.k == 2) = true := by simp [hm2]
              clear hm2 hA
              refine wp_region_held_drew (S := (fun w' => w'.cell? ⟨w.heap.size, 0, none⟩ = some (.int .i64 k) ∧ w'.cell? ⟨w.heap.size, 1, none⟩ = some (.int .i64 n) ∧ w'.cell? ⟨w.heap.size, 2, none⟩ = some (.string s) ∧ w'.cell? ⟨w.heap.size + 1, 0, none⟩ = some (.int .i64 k') ∧ w'.cell? ⟨w.heap.size + 1, 1, none⟩ = some (.int .i64 n') ∧ w'.cell? ⟨w.heap.size + 1, 2, none⟩ = some (.string s') ∧ w'.cell? ⟨g9, 0, none⟩ = some (.int .i64 m.k) ∧ w'.cell? ⟨g9, 1, none⟩ = some (.int .i64 m.n) ∧ w'.cell? ⟨g9, 2, none⟩ = some (.string m.s) ∧ w'.cell? ⟨g8, 0, none⟩ = some (.int .i64 r.k) ∧ w'.cell? ⟨g8, 1, none⟩ = some (.int .i64 r.n) ∧ w'.cell? ⟨g8, 2, none⟩ = some (.string r.s) ∧ Kept5 w w' ⟨k, n, s⟩ ⟨k', n', s'⟩ m r g9 g8)) (by kernel_rfl) (by exact (Kept5.mk hT.drew hQ.drew hR.drew).held) (fun hHeld => ?_)
              replace hT := hT.drew
              replace hQ := hQ.drew
              replace hR := hR.drew
              generalize World.drew wd = W0 at hT hQ hR hHeld ⊢
              refine wpAnyH_take (i := 0) (oi := ?et1o) (v := .pointer (some ⟨g9, 0, none⟩)) ?et1h (by kernel_rfl) (by kernel_rfl) (by kernel_rfl) ?et1q (Or.inl ⟨?et1w, ?et1y⟩) (by assumption) ?et1r
              case et1h => rw [List.getElem?_toArray]; rfl
              case et1q => exact fun _ _ _ h => h
              case et1w => rfl
              case et1y =>
                intro w hSw
                go_simp
              simp only [Act.put, List.setIfInBounds_toArray, List.set_cons_zero, List.set_cons_succ]
              refine wpAnyH_take (i := 1) (oi := ?et2o) (v := .int .i64 m.k) ?et2h (by kernel_rfl) (by kernel_rfl) (by kernel_rfl) ?et2q (Or.inl ⟨?et2w, ?et2y⟩) (by assumption) ?et2r
              case et2h => rw [List.getElem?_toArray]; rfl
              case et2q => exact fun _ _ _ h => h
              case et2w => rfl
              case et2y =>
                intro w hSw
                go_simp
              simp only [Act.put, List.setIfInBounds_toArray, List.set_cons_zero, List.set_cons_succ]
              refine wpAnyH_take (i := 2) (oi := ?et3o) (v := .bool true) ?et3h (by kernel_rfl) (by kernel_rfl) (by kernel_rfl) ?et3q (Or.inl ⟨?et3w, ?et3y⟩) (by assumption) ?et3r
              case et3h => rw [List.getElem?_toArray]; rfl
              case et3q => exact fun _ _ _ h => h
              case et3w => rfl
              case et3y =>
                intro w hSw
                go_simp
              simp only [Act.put, List.setIfInBounds_toArray, List.set_cons_zero, List.set_cons_succ]
              refine wpAnyH_take (i := 3) (oi := ?et4o) (v := .bool true) ?et4h (by kernel_rfl) (by kernel_rfl) (by kernel_rfl) ?et4q (Or.inl ⟨?et4w, ?et4y⟩) (by assumption) ?et4r
              case et4h => rw [List.getElem?_toArray]; rfl
              case et4q => exact fun _ _ _ h => h
              case et4w => rfl
              case et4y =>
                intro w hSw
                go_simp
              simp only [Act.put, List.setIfInBounds_toArray, List.set_cons_zero, List.set_cons_succ]
              refine wpAnyH_take (i := 4) (oi := ?et5o) (v := .agg #[.int .i64 m.k, .int .i64 m.n, .string m.s]) ?et5h (by kernel_rfl) (by kernel_rfl) (by kernel_rfl) ?et5q (Or.inl ⟨?et5w, ?et5y⟩) (by assumption) ?et5r
              case et5h => rw [List.getElem?_toArray]; rfl
              case et5q => exact fun _ _ _ h => h
              case et5w => rfl
              case et5y =>
                intro w hSw
                go_simp
              simp only [Act.put, List.setIfInBounds_toArray, List.set_cons_zero, List.set_cons_succ]
              refine wpAnyH_take (i := 5) (oi := ?et6o) (v := .agg #[.int .i64 r.k, .int .i64 r.n, .string r.s]) ?et6h (by kernel_rfl) (by kernel_rfl) (by kernel_rfl) ?et6q (Or.inl ⟨?et6w, ?et6y⟩) (by assumption) ?et6r
              case et6h => rw [List.getElem?_toArray]; rfl
              case et6q => exact fun _ _ _ h => h
              case et6w => rfl
              case et6y =>
                intro w hSw
                go_simp
              simp only [Act.put, List.setIfInBounds_toArray, List.set_cons_zero, List.set_cons_succ]
              refine wpAnyH_take (i := 7) (oi := ?et7o) (v := .agg #[.int .i64 k, .int .i64 n, .string s]) ?et7h (by kernel_rfl) (by kernel_rfl) (by kernel_rfl) ?et7q (Or.inl ⟨?et7w, ?et7y⟩) (by assumption) ?et7r
              case et7h => rw [List.getElem?_toArray]; rfl
              case et7q => exact fun _ _ _ h => h
              case et7w => rfl
              case et7y =>
                intro w hSw
                go_simp
              simp only [Act.put, List.setIfInBounds_toArray, List.set_cons_zero, List.set_cons_succ]
              refine wpAnyH_ready (rs := [6]) (by kernel_rfl) (by simp) ?_
              refine AllReadyH.cons (o := ?eb8o) ?eb8h (fun K hK => ?eb8s) AllReadyH.nil
              case eb8h => rw [List.getElem?_toArray]; rfl
              go_simp
              with_reducible refine Calls.mono (hA1 _) ?_
              rintro e ew9 ⟨rfl, hb1⟩
              go_wp2_with fail
              refine hK.out _ _ (Kept5.mk (hT.next hb1) (hQ.next hb1) (hR.next hb1)).held (fun hHeld => ?_)
              replace hT := hT.next hb1
              replace hQ := hQ.next hb1
              replace hR := hR.next hb1
              clear hK K hb1
              try simp only [Act.put, List.setIfInBounds_toArray, List.set_cons_zero, List.set_cons_succ]
              refine wpAnyH_take (i := 8) (oi := ?et10o) (v := .bool false) ?et10h (by kernel_rfl) (by kernel_rfl) (by kernel_rfl) ?et10q (Or.inl ⟨?et10w, ?et10y⟩) (by assumption) ?et10r
              case et10h => rw [List.getElem?_toArray]; rfl
              case et10q => exact fun _ _ _ h => h
              case et10w => rfl
              case et10y =>
                intro w hSw
                go_simp
              simp only [Act.put, List.setIfInBounds_toArray, List.set_cons_zero, List.set_cons_succ]
              refine wpAnyH_take (i := 9) (oi := ?et11o) (v := .bool false) ?et11h (by kernel_rfl) (by kernel_rfl) (by kernel_rfl) ?et11q (Or.inl ⟨?et11w, ?et11y⟩) (by assumption) ?et11r
              case et11h => rw [List.getElem?_toArray]; rfl
              case et11q => exact fun _ _ _ h => h
              case et11w => rfl
              case et11y =>
                intro w hSw
                go_simp
              simp only [Act.put, List.setIfInBounds_toArray, List.set_cons_zero, List.set_cons_succ]
              refine wpAnyH_done (by kernel_rfl) ?_ _
              go_wp2_with (go_at_call 14; refine (hst _ hT.2.2.1).mono ?_; rintro e w9 ⟨rfl, hb9⟩)
              go_ret
              exact ⟨rfl, hT.2.2.1.trans (hb9.mono (Nat.le_of_lt (Nat.lt_of_succ_lt hT.2.2.2)))⟩
            · have hmb : (m.k == 2) = false := by simp [hm2]
              clear hm2
              refine wp_region_held_drew (S := (fun w' => w'.cell? ⟨w.heap.size, 0, none⟩ = some (.int .i64 k) ∧ w'.cell? ⟨w.heap.size, 1, none⟩ = some (.int .i64 n) ∧ w'.cell? ⟨w.heap.size, 2, none⟩ = some (.string s) ∧ w'.cell? ⟨w.heap.size + 1, 0, none⟩ = some (.int .i64 k') ∧ w'.cell? ⟨w.heap.size + 1, 1, none⟩ = some (.int .i64 n') ∧ w'.cell? ⟨w.heap.size + 1, 2, none⟩ = some (.string s') ∧ w'.cell? ⟨g9, 0, none⟩ = some (.int .i64 m.k) ∧ w'.cell? ⟨g9, 1, none⟩ = some (.int .i64 m.n) ∧ w'.cell? ⟨g9, 2, none⟩ = some (.string m.s) ∧ w'.cell? ⟨g8, 0, none⟩ = some (.int .i64 r.k) ∧ w'.cell? ⟨g8, 1, none⟩ = some (.int .i64 r.n) ∧ w'.cell? ⟨g8, 2, none⟩ = some (.string r.s) ∧ Kept5 w w' ⟨k, n, s⟩ ⟨k', n', s'⟩ m r g9 g8)) (by kernel_rfl) (by exact (Kept5.mk hT.drew hQ.drew hR.drew).held) (fun hHeld => ?_)
              replace hT := hT.drew
              replace hQ := hQ.drew
              replace hR := hR.drew
              generalize World.drew wd = W0 at hT hQ hR hHeld ⊢
              refine wpAnyH_take (i := 0) (oi := ?ft1o) (v := .pointer (some ⟨g9, 0, none⟩)) ?ft1h (by kernel_rfl) (by kernel_rfl) (by kernel_rfl) ?ft1q (Or.inl ⟨?ft1w, ?ft1y⟩) (by assumption) ?ft1r
              case ft1h => rw [List.getElem?_toArray]; rfl
              case ft1q => exact fun _ _ _ h => h
              case ft1w => rfl
              case ft1y =>
                intro w hSw
                go_simp
              simp only [Act.put, List.setIfInBounds_toArray, List.set_cons_zero, List.set_cons_succ]
              refine wpAnyH_take (i := 1) (oi := ?ft2o) (v := .int .i64 m.k) ?ft2h (by kernel_rfl) (by kernel_rfl) (by kernel_rfl) ?ft2q (Or.inl ⟨?ft2w, ?ft2y⟩) (by assumption) ?ft2r
              case ft2h => rw [List.getElem?_toArray]; rfl
              case ft2q => exact fun _ _ _ h => h
              case ft2w => rfl
              case ft2y =>
                intro w hSw
                go_simp
              simp only [Act.put, List.setIfInBounds_toArray, List.set_cons_zero, List.set_cons_succ]
              refine wpAnyH_take (i := 2) (oi := ?ft3o) (v := .bool false) ?ft3h (by kernel_rfl) (by kernel_rfl) (by kernel_rfl) ?ft3q (Or.inl ⟨?ft3w, ?ft3y⟩) (by assumption) ?ft3r
              case ft3h => rw [List.getElem?_toArray]; rfl
              case ft3q => exact fun _ _ _ h => h
              case ft3w => rfl
              case ft3y =>
                intro w hSw
                go_simp
              simp only [Act.put, List.setIfInBounds_toArray, List.set_cons_zero, List.set_cons_succ]
              refine wpAnyH_take (i := 3) (oi := ?ft4o) (v := .bool false) ?ft4h (by kernel_rfl) (by kernel_rfl) (by kernel_rfl) ?ft4q (Or.inl ⟨?ft4w, ?ft4y⟩) (by assumption) ?ft4r
              case ft4h => rw [List.getElem?_toArray]; rfl
              case ft4q => exact fun _ _ _ h => h
              case ft4w => rfl
              case ft4y =>
                intro w hSw
                go_simp
              simp only [Act.put, List.setIfInBounds_toArray, List.set_cons_zero, List.set_cons_succ]
              refine wpAnyH_take (i := 4) (oi := ?ft5o) (v := undef) ?ft5h (by kernel_rfl) (by kernel_rfl) (by kernel_rfl) ?ft5q (Or.inr ⟨?ft5w, rfl⟩) (by assumption) ?ft5r
              case ft5h => rw [List.getElem?_toArray]; rfl
              case ft5q => exact fun _ _ _ h => h
              case ft5w => rfl
              simp only [Act.put, List.setIfInBounds_toArray, List.set_cons_zero, List.set_cons_succ]
              refine wpAnyH_take (i := 5) (oi := ?ft6o) (v := undef) ?ft6h (by kernel_rfl) (by kernel_rfl) (by kernel_rfl) ?ft6q (Or.inr ⟨?ft6w, rfl⟩) (by assumption) ?ft6r
              case ft6h => rw [List.getElem?_toArray]; rfl
              case ft6q => exact fun _ _ _ h => h
              case ft6w => rfl
              simp only [Act.put, List.setIfInBounds_toArray, List.set_cons_zero, List.set_cons_succ]
              refine wpAnyH_take (i := 6) (oi := ?ft7o) (v := undef) ?ft7h (by kernel_rfl) (by kernel_rfl) (by kernel_rfl) ?ft7q (Or.inr ⟨?ft7w, rfl⟩) (by assumption) ?ft7r
              case ft7h => rw [List.getElem?_toArray]; rfl
              case ft7q => exact fun _ _ _ h => h
              case ft7w => rfl
              simp only [Act.put, List.setIfInBounds_toArray, List.set_cons_zero, List.set_cons_succ]
              refine wpAnyH_take (i := 7) (oi := ?ft8o) (v := undef) ?ft8h (by kernel_rfl) (by kernel_rfl) (by kernel_rfl) ?ft8q (Or.inr ⟨?ft8w, rfl⟩) (by assumption) ?ft8r
              case ft8h => rw [List.getElem?_toArray]; rfl
              case ft8q => exact fun _ _ _ h => h
              case ft8w => rfl
              simp only [Act.put, List.setIfInBounds_toArray, List.set_cons_zero, List.set_cons_succ]
              refine wpAnyH_take (i := 8) (oi := ?ft9o) (v := undef) ?ft9h (by kernel_rfl) (by kernel_rfl) (by kernel_rfl) ?ft9q (Or.inr ⟨?ft9w, rfl⟩) (by assumption) ?ft9r
              case ft9h => rw [List.getElem?_toArray]; rfl
              case ft9q => exact fun _ _ _ h => h
              case ft9w => rfl
              simp only [Act.put, List.setIfInBounds_toArray, List.set_cons_zero, List.set_cons_succ]
              refine wpAnyH_take (i := 9) (oi := ?ft10o) (v := .bool false) ?ft10h (by kernel_rfl) (by kernel_rfl) (by kernel_rfl) ?ft10q (Or.inl ⟨?ft10w, ?ft10y⟩) (by assumption) ?ft10r
              case ft10h => rw [List.getElem?_toArray]; rfl
              case ft10q => exact fun _ _ _ h => h
              case ft10w => rfl
              case ft10y =>
                intro w hSw
                go_simp
              simp only [Act.put, List.setIfInBounds_toArray, List.set_cons_zero, List.set_cons_succ]
              refine wpAnyH_done (by kernel_rfl) ?_ _
              go_wp2_with (go_at_call 14; refine (hst _ hT.2.2.1).mono ?_; rintro e w9 ⟨rfl, hb9⟩)
              go_ret
              exact ⟨rfl, hT.2.2.1.trans (hb9.mono (Nat.le_of_lt (Nat.lt_of_succ_lt hT.2.2.2)))⟩
          · have hr2 : (r.k == 2) = false := by simp [hr]
            go_wp2_with (go_at_call 14; refine (hst _ hT.2.2.1).mono ?_; rintro e w9 ⟨rfl, hb9⟩)
            go_ret
            exact ⟨rfl, hT.2.2.1.trans (hb9.mono (Nat.le_of_lt (Nat.lt_of_succ_lt hT.2.2.2)))⟩
        · have hq2 : (q.k == 2) = false := by simp [hq]
          go_wp2_with (go_at_call 14; refine (hst _ hT.2.2.1).mono ?_; rintro e w9 ⟨rfl, hb9⟩)
          go_ret
          exact ⟨rfl, hT.2.2.1.trans (hb9.mono (Nat.le_of_lt (Nat.lt_of_succ_lt hT.2.2.2)))⟩

end Go.Proofs
