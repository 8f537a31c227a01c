/- Of package dumbmake: a stream, and values side by side in memory. No condition. -/
import Derived.Test.YtkpligcifakmjaaGreatDoorKoM
import Derived.Test.YtkpligcifakmjaaGreatDoorShelfM
import Derived.Deep.RegionHeld3
namespace Go.Proofs
open Go.RowKit Go.Ke

theorem blk_lt {W : World} {g : Nat} {o : Obj} (h : W.heap[g]? = some o) : g < W.heap.size := (Array.getElem?_eq_some_iff.1 h).1

/-- A stream lies in block g; it has handed out 'a' numbers. -/
structure Live (w : World) (g N : Nat) (ad : Option Addr) (zs : List Int) (cap : Nat) (a : Int) : Prop where
  st : Strm w g ad zs.length cap a
  ints : IntsAt w N ad zs
  le : N ≤ g
  len : zs.length ≤ 9223372036854775807
  pos : 0 ≤ a

/-- Of what was there nothing but block g has turned. -/
structure Turns (g : Nat) (w w' : World) : Prop where
  size : w.heap.size ≤ w'.heap.size
  same : ∀ k, k < w.heap.size → k ≠ g → w'.heap[k]? = w.heap[k]?
  below : Below g w w'

theorem Turns.refl (g : Nat) (w : World) : Turns g w w := ⟨Nat.le_refl _, fun _ _ _ => rfl, Below.refl _ _⟩

theorem Turns.trans {g : Nat} {w w1 w2 : World} (h : Turns g w w1) (h2 : Turns g w1 w2) : Turns g w w2 :=
  ⟨Nat.le_trans h.size h2.size, fun k hk hg => (h2.same k (Nat.lt_of_lt_of_le hk h.size) hg).trans (h.same k hk hg), h.below.trans h2.below⟩

theorem Only.turns {g : Nat} {w w1 : World} (h : Only g w w1) : Turns g w w1 := ⟨Nat.le_of_eq h.1.symm, fun k _ hg => h.2.1 k hg, h.2.2⟩

theorem Turns.of {g : Nat} {w w1 : World} (h : Below w.heap.size w w1) (hg : g ≤ w.heap.size) : Turns g w w1 := ⟨h.size, fun k hk _ => h.block k hk, h.mono hg⟩

theorem Turns.new {g : Nat} {w : World} (o : Obj) (hg : g ≤ w.heap.size) : Turns g w (w.alloc o) := Turns.of ((Below.refl _ _).alloc (Nat.le_refl _) _) hg

theorem Turns.drew {g : Nat} {w w1 : World} (h : Turns g w w1) : Turns g w w1.drew := ⟨h.size, h.same, h.below.drew⟩

theorem Turns.drewN {g n : Nat} {w w1 : World} (h : Turns g w w1) : Turns g w (w1.drewN n) := ⟨h.size, h.same, belowDrewN h.below⟩

theorem Turns.block {g k : Nat} {w w1 : World} {o : Obj} (h : Turns g w w1) (hk : w.heap[k]? = some o) (hg : k ≠ g) : w1.heap[k]? = some o := (h.same k (blk_lt hk) hg).trans hk

theorem Live.lt {w : World} {g N : Nat} {ad : Option Addr} {zs : List Int} {cap : Nat} {a : Int} (h : Live w g N ad zs cap a) : g < w.heap.size := blk_lt h.st

theorem Live.turn {w w' : World} {g N : Nat} {ad : Option Addr} {zs : List Int} {cap : Nat} {a b : Int} (h : Live w g N ad zs cap a) (ht : Turns g w w') (hs : Strm w' g ad zs.length cap b) (hb : 0 ≤ b) : Live w' g N ad zs cap b :=
  ⟨hs, h.ints.below (ht.below.mono h.le), h.le, h.len, hb⟩

theorem Live.call {w w' : World} {g N : Nat} {ad : Option Addr} {zs : List Int} {cap : Nat} {a : Int} (h : Live w g N ad zs cap a) (hb : Below w.heap.size w w') : Live w' g N ad zs cap a :=
  h.turn (Turns.of hb (Nat.le_of_lt h.lt)) ((hb.block _ h.lt).trans h.st) h.pos

theorem Live.alloc {w : World} {g N : Nat} {ad : Option Addr} {zs : List Int} {cap : Nat} {a : Int} (h : Live w g N ad zs cap a) (o : Obj) : Live (w.alloc o) g N ad zs cap a :=
  h.call ((Below.refl _ _).alloc (Nat.le_refl _) _)

theorem Live.drew {w : World} {g N : Nat} {ad : Option Addr} {zs : List Int} {cap : Nat} {a : Int} (h : Live w g N ad zs cap a) : Live w.drew g N ad zs cap a :=
  h.call (Below.refl _ _).drew

theorem Live.set {w : World} {g N k i : Nat} {v : Value} {ad : Option Addr} {zs : List Int} {cap : Nat} {a : Int} (h : Live w g N ad zs cap a) (hk : g < k) : Live (w.setCell ⟨k, i, none⟩ v) g N ad zs cap a := by
  refine ⟨(block_set_ne (by omega)).trans h.st, h.ints.below ((Below.refl _ _).setCell (by show N ≤ k; have := h.le; omega) _), h.le, h.len, h.pos⟩

theorem Tryz.nextL {w : World} {g N : Nat} {ad : Option Addr} {zs : List Int} {cap : Nat} {a : Int} (h : Live w g N ad zs cap a) (ha : a < 1000000) (n : Int) (h1 : 1 ≤ n) (h2 : n ≤ 9223372036854775807) :
    Calls Tryz.prog 52 #[.pointer (some ⟨g, 0, none⟩), .int .i64 n] w fun e w' => ∃ r, 0 ≤ r ∧ r < n ∧ e = .returned (.int .i64 r) ∧ Live w' g N ad zs cap (a + 1) ∧ Turns g w w' := by
  refine (Tryz.nextW g N ad zs cap a n w h.st h.ints h.le h.pos ha h1 h2 h.len).mono ?_
  rintro e w' ⟨⟨r, h3, h4, rfl⟩, h5, h6⟩
  exact ⟨r, h3, h4, rfl, h.turn h6.turns h5 (by have := h.pos; omega), h6.turns⟩

theorem Tryz.rangeL {w : World} {g N : Nat} {ad : Option Addr} {zs : List Int} {cap : Nat} {a : Int} (h : Live w g N ad zs cap a) (ha : a < 1000000) (lo hi : Int) (h1 : -4000000000 ≤ lo) (h2 : lo ≤ hi) (h3 : hi ≤ 4000000000) :
    Calls Tryz.prog 13 #[.pointer (some ⟨g, 0, none⟩), .int .i64 lo, .int .i64 hi] w fun e w' => ∃ r, lo ≤ r ∧ r ≤ hi ∧ e = .returned (.int .i64 r) ∧ Live w' g N ad zs cap (a + 1) ∧ Turns g w w' := by
  refine (Tryz.range g N ad zs cap a lo hi w h.st h.ints h.le h.pos ha h1 h2 h3 h.len).mono ?_
  rintro e w' ⟨⟨r, h3, h4, rfl⟩, h5, h6⟩
  exact ⟨r, h3, h4, rfl, h.turn h6.turns h5 (by have := h.pos; omega), h6.turns⟩

theorem Tryz.pickL {w : World} {g N : Nat} {ad : Option Addr} {zs : List Int} {cap : Nat} {a : Int} (h : Live w g N ad zs cap a) (ha : a < 1000000) (b m : Nat) (xs : List Int) (hm : m = xs.length) (hb : b ≠ g) (hx : w.heap[b]? = some (.cells (xs.map (Value.int .i64)).toArray 3)) (h1 : 1 ≤ xs.length) (h2 : xs.length ≤ 1000) :
    Calls Tryz.prog 12 #[.pointer (some ⟨g, 0, none⟩), .slice (some ⟨b, 0, none⟩) m m] w fun e w' => ∃ r, r ∈ xs ∧ e = .returned (.int .i64 r) ∧ Live w' g N ad zs cap (a + 1) ∧ Turns g w w' := by
  subst hm
  refine (Tryz.pick g N ad zs cap a b xs w h.st h.ints h.le h.pos ha h.len hb hx h1 h2).mono ?_
  rintro e w' ⟨⟨r, h3, rfl⟩, h5, h6⟩
  exact ⟨r, h3, rfl, h.turn h6.turns h5 (by have := h.pos; omega), h6.turns⟩

theorem Tryz.flipL {w : World} {g N : Nat} {ad : Option Addr} {zs : List Int} {cap : Nat} {a : Int} (h : Live w g N ad zs cap a) (ha : a < 1000000) (n : Int) (h1 : 1 ≤ n) (h2 : n ≤ 9223372036854775807) :
    Calls Tryz.prog 40 #[.pointer (some ⟨g, 0, none⟩), .int .i64 n] w fun e w' => ∃ b : Bool, e = .returned (.bool b) ∧ Live w' g N ad zs cap (a + 1) ∧ Turns g w w' := by
  go_enter Tryz.func40, Tryz.ntmps40
  go_wp2_with (go_at_call 52; refine (Tryz.nextL h ha _ h1 h2).mono ?_; rintro e w' ⟨r, hr1, hr2, rfl, hl, ht⟩)
  go_ret
  exact ⟨_, rfl, hl, ht⟩

theorem Tryz.intL {w : World} {g N : Nat} {ad : Option Addr} {zs : List Int} {cap : Nat} {a : Int} (h : Live w g N ad zs cap a) (ha : a < 100000) :
    Calls Tryz.prog 14 #[.pointer (some ⟨g, 0, none⟩)] w fun e w' => ∃ r, -9223372036854775808 ≤ r ∧ r ≤ 9223372036854775807 ∧ e = .returned (.int .i64 r) ∧ Live w' g N ad zs cap (a + 2) ∧ Turns g w w' := by
  refine (Tryz.intF g N ad zs cap a w h.st h.ints h.le h.pos ha h.len h.lt).mono ?_
  rintro e w' ⟨⟨r, h1, h2, rfl⟩, h3, h4, h5, h6⟩
  have ht : Turns g w w' := ⟨h4, h5, h6⟩
  exact ⟨r, h1, h2, rfl, h.turn ht h3 (by have := h.pos; omega), ht⟩

/-! Trees stay where they are. -/

theorem CellsAt.ne {w : World} {p o g : Nat} {x : Node} {v : Value} {ad : Option Addr} {n cap : Nat} {a : Int} (h : CellsAt w p o x v) (hs : Strm w g ad n cap a) : p ≠ g := by
  intro hp
  subst hp
  have h5 := h.c5
  have e : w.heap[p]? = some (.cells #[.slice ad n cap, .int .i64 a] 31) := hs
  simp only [World.cell?, e] at h5
  have : o + 5 ≥ 2 := by omega
  rw [Array.getElem?_eq_none (by simp)] at h5
  cases h5

theorem ExIs.turn {g : Nat} {zad : Option Addr} {n zcap : Nat} {a : Int} : ∀ {d : Nat} {w w' : World} {N M : Nat} {ad : Option Addr} {cap : Nat} {e : Ex}, ExIs d w N ad cap e → Strm w g zad n zcap a → Turns g w w' → N ≤ w.heap.size → N ≤ M → ExIs d w' M ad cap e
  | 0, _, _, _, _, _, _, _, h, _, _, _, _ => h.elim
  | d + 1, w, w', N, M, ad, cap, e, h, hs, ht, hN, hM => by
    obtain ⟨h1, h2, h3, h4⟩ := h
    refine ⟨h1, h2, h3, fun i hi => ?_⟩
    obtain ⟨p, o, bd, bc, g1, g2, g3, g4⟩ := h4 i hi
    exact ⟨p, o, bd, bc, g1, Nat.lt_of_lt_of_le g2 hM, g3.of (ht.same p (Nat.lt_of_lt_of_le g2 hN) (g3.ne hs)), ExIs.turn g4 hs ht hN hM⟩

def leafX (k n : Int) (s : ByteArray) : Node := ⟨1, 0, 0, k, n, s, ⟨#[]⟩, ⟨#[]⟩, false⟩

set_option maxRecDepth 20000 in
set_option maxHeartbeats 1000000 in
theorem Tryz.constant (k n : Int) (s : ByteArray) (w : World) : Calls Tryz.prog 38 #[valV k n s] w fun e w' => e = .returned (Node.v (leafX k n s) (.slice none 0 0)) ∧ Below w.heap.size w w' := by
  have hB : Below w.heap.size w ((w.alloc (.cells #[.int .i64 k, .int .i64 n, .string s] 23)).alloc (.cells ((leafX k n s).cells (.slice none 0 0)) 57)) := ((Below.refl _ _).alloc (Nat.le_refl _) _).alloc (by rw [ex_alloc_size]; omega) _
  have hX : Box ((w.alloc (.cells #[.int .i64 k, .int .i64 n, .string s] 23)).alloc (.cells ((leafX k n s).cells (.slice none 0 0)) 57)) (w.heap.size + 1) (leafX k n s) (.slice none 0 0) := by
    rw [← ex_alloc_size w (.cells #[.int .i64 k, .int .i64 n, .string s] 23)]; exact Box.new _ _ _
  unfold leafX Node.cells at hB
  unfold leafX at hX
  unfold valV
  go_enter Tryz.func38, Tryz.ntmps38
  go_wp2_with fail
  unfold Box Node.cells at hX
  generalize ((w.alloc (.cells #[.int .i64 k, .int .i64 n, .string s] 23)).alloc (.cells _ 57)) = W at hB hX ⊢
  obtain ⟨c0, c1, c2, c3, c4, c5, c6, c7, c8, c9, c10, c11, c12⟩ := Box.is (x := ⟨1, 0, 0, k, n, s, ⟨#[]⟩, ⟨#[]⟩, false⟩) hX
  refine bodyPost_ret (v := Node.v (leafX k n s) (.slice none 0 0)) ?_ rfl ⟨rfl, hB⟩
  simp [results, Tryz.results38, go_sem, Node.v, Node.cells, leafX, c0, c1, c2, c3, c4, c5, c6, c7, c8, c9, c10, c11, c12]

set_option maxRecDepth 20000 in
set_option maxHeartbeats 1000000 in
theorem Tryz.oper (op : Int) (ad : Option Addr) (n cap : Nat) (w : World) : Calls Tryz.prog 39 #[.int .i64 op, .slice ad n cap] w fun e w' => e = .returned (Node.v ⟨4, op, 0, 0, 0, ⟨#[]⟩, ⟨#[]⟩, ⟨#[]⟩, false⟩ (.slice ad n cap)) ∧ Below w.heap.size w w' := by
  have hB : Below w.heap.size w (w.alloc (.cells (Node.cells ⟨4, op, 0, 0, 0, ⟨#[]⟩, ⟨#[]⟩, ⟨#[]⟩, false⟩ (.slice ad n cap)) 57)) := (Below.refl _ _).alloc (Nat.le_refl _) _
  have hX : Box (w.alloc (.cells (Node.cells ⟨4, op, 0, 0, 0, ⟨#[]⟩, ⟨#[]⟩, ⟨#[]⟩, false⟩ (.slice ad n cap)) 57)) w.heap.size ⟨4, op, 0, 0, 0, ⟨#[]⟩, ⟨#[]⟩, ⟨#[]⟩, false⟩ (.slice ad n cap) := Box.new _ _ _
  unfold Node.cells at hB
  unfold Box Node.cells at hX
  go_enter Tryz.func39, Tryz.ntmps39
  go_wp2_with fail
  generalize (w.alloc (.cells _ 57)) = W at hB hX ⊢
  obtain ⟨c0, c1, c2, c3, c4, c5, c6, c7, c8, c9, c10, c11, c12⟩ := Box.is (x := ⟨4, op, 0, 0, 0, ⟨#[]⟩, ⟨#[]⟩, ⟨#[]⟩, false⟩) hX
  refine bodyPost_ret (v := Node.v ⟨4, op, 0, 0, 0, ⟨#[]⟩, ⟨#[]⟩, ⟨#[]⟩, false⟩ (.slice ad n cap)) ?_ rfl ⟨rfl, hB⟩
  simp [results, Tryz.results39, go_sem, Node.v, Node.cells, c0, c1, c2, c3, c4, c5, c6, c7, c8, c9, c10, c11, c12]
end Go.Proofs

namespace Go.Proofs
open Go.RowKit Go.Ke

theorem Tryz.repeatF (s : ByteArray) (c : Int) (h0 : 0 ≤ c) (h1 : c ≤ 1000) (hs : s.size ≤ 1000) (w : World) :
    Calls Tryz.prog 44 #[.string s, .int .i64 c] w fun e w' => e = .returned (.string ⟨(Lib.repeatL s.data.toList c.toNat).toArray⟩) ∧ Below w.heap.size w w' := by
  obtain ⟨k, rfl⟩ := Int.eq_ofNat_of_zero_le h0
  have : s.size * k ≤ 1000 * 1000 := Nat.mul_le_mul hs (by omega)
  exact Tryz.strings_Repeat s k w (by omega) (by omega)

theorem free_zero {w' : World} {g : Nat} (h : w'.heap[g]? = some (.cells #[.int .i64 0, .int .i64 0, .string ⟨#[]⟩] 23)) :
    (w'.cell? ⟨g, 0, none⟩ = some (.int .i64 0) ∧ w'.cell? ⟨g, 1, none⟩ = some (.int .i64 0) ∧ w'.cell? ⟨g, 2, none⟩ = some (.string ⟨#[]⟩)) ∧
    (w'.frozen? ⟨g, 0, none⟩ = false ∧ w'.frozen? ⟨g, 1, none⟩ = false ∧ w'.frozen? ⟨g, 2, none⟩ = false) := by
  refine ⟨⟨?_, ?_, ?_⟩, ?_, ?_, ?_⟩ <;> simp [World.cell?, World.frozen?, h]

theorem set3_block {W : World} {g : Nat} {a b c : Value} (x : Val) (h : W.heap[g]? = some (.cells #[a, b, c] 23)) :
    (((W.setCell ⟨g, 0, none⟩ (.int .i64 x.k)).setCell ⟨g, 1, none⟩ (.int .i64 x.n)).setCell ⟨g, 2, none⟩ (.string x.s)).heap[g]? = some (.cells #[.int .i64 x.k, .int .i64 x.n, .string x.s] 23) := by
  rw [block_set (block_set (block_set h))]
  rfl

/-- A result that lies in a box. -/
theorem res_box {fn : Func} {t b : Nat} {tmps : Array Value} {W : World} {y : Val} (hf : fn.results = #[.cell t 23]) (ht : tmps.getD t undef = .pointer (some ⟨b, 0, none⟩))
    (h : W.heap[b]? = some (.cells #[.int .i64 y.k, .int .i64 y.n, .string y.s] 23)) : (results fn tmps).run Tryz.prog W = .ok y.v W := by
  have c0 : W.cell? ⟨b, 0, none⟩ = some (.int .i64 y.k) := by simp [World.cell?, h]
  have c1 : W.cell? ⟨b, 1, none⟩ = some (.int .i64 y.n) := by simp [World.cell?, h]
  have c2 : W.cell? ⟨b, 2, none⟩ = some (.string y.s) := by simp [World.cell?, h]
  have ht2 : tmps[t]?.getD undef = .pointer (some ⟨b, 0, none⟩) := by rw [← Array.getD_eq_getD_getElem?]; exact ht
  unfold results
  rw [hf]
  simp [go_sem, ht2, c0, c1, c2, Tryz.isAgg23, Tryz.sizeOf23, Val.v, valV, asAddr]

/-- A part written over a block of thirteen cells. -/
def set13 (W : World) (g : Nat) (x : Node) (a : Value) : World :=
  ((((((((((((W.setCell ⟨g, 0, none⟩ (.int .i64 x.k)).setCell ⟨g, 1, none⟩ (.int .i64 x.op)).setCell ⟨g, 2, none⟩ (.int .i64 x.n)).setCell ⟨g, 3, none⟩ (.int .i64 x.vk)).setCell ⟨g, 4, none⟩ (.int .i64 x.vn)).setCell ⟨g, 5, none⟩ (.string x.vs)).setCell ⟨g, 6, none⟩ (.string x.src)).setCell ⟨g, 7, none⟩ (.string x.name)).setCell ⟨g, 8, none⟩ (.bool x.dist)).setCell ⟨g, 9, none⟩ a).setCell ⟨g, 10, none⟩ (.slice none 0 0)).setCell ⟨g, 11, none⟩ (.slice none 0 0)).setCell ⟨g, 12, none⟩ (.slice none 0 0)

theorem set13_box {W : World} {g : Nat} {y : Node} {b : Value} (x : Node) (a : Value) (h : Box W g y b) : Box (set13 W g x a) g x a := by
  unfold Box set13
  rw [block_set (block_set (block_set (block_set (block_set (block_set (block_set (block_set (block_set (block_set (block_set (block_set (block_set h))))))))))))]
  unfold Node.cells
  simp only [List.setIfInBounds_toArray, List.set_cons_zero, List.set_cons_succ]

theorem set13_below {N g : Nat} {w W : World} (x : Node) (a : Value) (h : Below N w W) (hg : N ≤ g) : Below N w (set13 W g x a) := by
  unfold set13
  iterate 13 refine Below.setCell ?_ hg _
  exact h

theorem set13_ne {W : World} {g k : Nat} (x : Node) (a : Value) (h : k ≠ g) : (set13 W g x a).heap[k]? = W.heap[k]? := by
  unfold set13
  iterate 13 rw [block_set_ne (Ne.symm h)]

theorem set13_size {W : World} {g : Nat} (x : Node) (a : Value) : (set13 W g x a).heap.size = W.heap.size := by
  unfold set13
  iterate 13 rw [size_set]

theorem Live.set13 {w : World} {g N k : Nat} {ad : Option Addr} {zs : List Int} {cap : Nat} {a : Int} (x : Node) (v : Value) (h : Live w g N ad zs cap a) (hk : g < k) : Live (set13 w k x v) g N ad zs cap a := by
  refine ⟨(set13_ne x v (by omega)).trans h.st, h.ints.below (set13_below x v (Below.refl _ _) (by have := h.le; omega)), h.le, h.len, h.pos⟩

theorem Turns.set13 {g k : Nat} {w W : World} (x : Node) (v : Value) (h : Turns g w W) (hk : w.heap.size ≤ k) (hg : g ≤ k) : Turns g w (set13 W k x v) :=
  ⟨by rw [set13_size]; exact h.size, fun j hj hjg => (set13_ne x v (by omega)).trans (h.same j hj hjg), set13_below x v h.below hg⟩
end Go.Proofs
