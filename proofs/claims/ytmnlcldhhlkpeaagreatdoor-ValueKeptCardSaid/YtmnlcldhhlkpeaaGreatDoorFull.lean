/- Of package dumbmake: full values out of a stream. No condition but what the library's variables hold. -/
import Derived.Test.YtmnlcldhhlkpeaaGreatDoorLit
import Derived.Test.YtmnlcldhhlkpeaaGreatDoorStrm
import Derived.Deep.RegionHeld3
import Derived.Deep.CutRange
namespace Go.Proofs
open Go.RowKit

theorem blk_lt {W : World} {g : Nat} {o : Obj} (h : W.heap[g]? = some o) : g < W.heap.size := (Array.getElem?_eq_some_iff.1 h).1

/-- A stream lies in block g; it has handed out 'a' numbers. -/
structure Live (w : World) (g N : Nat) (ad : Option Addr) (zs : List Int) (cap : Nat) (a : Int) : Prop where
  st : Strm w g ad zs.length cap a
  ints : IntsAt w N ad zs
  le : N ≤ g
  len : zs.length ≤ 9223372036854775807
  pos : 0 ≤ a
  lit : Lit N w

/-- Of what was there nothing but block g has turned. -/
structure Turns (g : Nat) (w w' : World) : Prop where
  size : w.heap.size ≤ w'.heap.size
  same : ∀ k, k < w.heap.size → k ≠ g → w'.heap[k]? = w.heap[k]?
  below : Below g w w'

theorem Turns.refl (g : Nat) (w : World) : Turns g w w := ⟨Nat.le_refl _, fun _ _ _ => rfl, Below.refl _ _⟩

theorem Turns.trans {g : Nat} {w w1 w2 : World} (h : Turns g w w1) (h2 : Turns g w1 w2) : Turns g w w2 :=
  ⟨Nat.le_trans h.size h2.size, fun k hk hg => (h2.same k (Nat.lt_of_lt_of_le hk h.size) hg).trans (h.same k hk hg), h.below.trans h2.below⟩

theorem Only.turns {g : Nat} {w w1 : World} (h : Only g w w1) : Turns g w w1 := ⟨Nat.le_of_eq h.1.symm, fun k _ hg => h.2.1 k hg, h.2.2⟩

theorem Turns.of {g : Nat} {w w1 : World} (h : Below w.heap.size w w1) (hg : g ≤ w.heap.size) : Turns g w w1 := ⟨h.size, fun k hk _ => h.block k hk, h.mono hg⟩

theorem Turns.new {g : Nat} {w : World} (o : Obj) (hg : g ≤ w.heap.size) : Turns g w (w.alloc o) := Turns.of ((Below.refl _ _).alloc (Nat.le_refl _) _) hg

theorem Turns.drew {g : Nat} {w w1 : World} (h : Turns g w w1) : Turns g w w1.drew := ⟨h.size, h.same, h.below.drew⟩

theorem Turns.block {g k : Nat} {w w1 : World} {o : Obj} (h : Turns g w w1) (hk : w.heap[k]? = some o) (hg : k ≠ g) : w1.heap[k]? = some o := (h.same k (blk_lt hk) hg).trans hk

theorem Live.lt {w : World} {g N : Nat} {ad : Option Addr} {zs : List Int} {cap : Nat} {a : Int} (h : Live w g N ad zs cap a) : g < w.heap.size := blk_lt h.st

theorem Live.turn {w w' : World} {g N : Nat} {ad : Option Addr} {zs : List Int} {cap : Nat} {a b : Int} (h : Live w g N ad zs cap a) (ht : Turns g w w') (hs : Strm w' g ad zs.length cap b) (hb : 0 ≤ b) : Live w' g N ad zs cap b :=
  ⟨hs, h.ints.below (ht.below.mono h.le), h.le, h.len, hb, h.lit.on (ht.below.mono h.le)⟩

theorem Live.call {w w' : World} {g N : Nat} {ad : Option Addr} {zs : List Int} {cap : Nat} {a : Int} (h : Live w g N ad zs cap a) (hb : Below w.heap.size w w') : Live w' g N ad zs cap a :=
  h.turn (Turns.of hb (Nat.le_of_lt h.lt)) ((hb.block _ h.lt).trans h.st) h.pos

theorem Live.alloc {w : World} {g N : Nat} {ad : Option Addr} {zs : List Int} {cap : Nat} {a : Int} (h : Live w g N ad zs cap a) (o : Obj) : Live (w.alloc o) g N ad zs cap a :=
  h.call ((Below.refl _ _).alloc (Nat.le_refl _) _)

theorem Live.drew {w : World} {g N : Nat} {ad : Option Addr} {zs : List Int} {cap : Nat} {a : Int} (h : Live w g N ad zs cap a) : Live w.drew g N ad zs cap a :=
  h.call (Below.refl _ _).drew

theorem Live.set {w : World} {g N k i : Nat} {v : Value} {ad : Option Addr} {zs : List Int} {cap : Nat} {a : Int} (h : Live w g N ad zs cap a) (hk : g < k) : Live (w.setCell ⟨k, i, none⟩ v) g N ad zs cap a := by
  have hb : Below k w (w.setCell ⟨k, i, none⟩ v) := Below.setCell (Below.refl k w) (show k ≤ (⟨k, i, none⟩ : Addr).block from Nat.le_refl k) v
  exact ⟨(block_set_ne (by omega)).trans h.st, h.ints.below (hb.mono (by have := h.le; omega)), h.le, h.len, h.pos, h.lit.on (hb.mono (by have := h.le; omega))⟩

theorem Tryz.nextL {w : World} {g N : Nat} {ad : Option Addr} {zs : List Int} {cap : Nat} {a : Int} (h : Live w g N ad zs cap a) (ha : a < 1000000) (n : Int) (h1 : 1 ≤ n) (h2 : n ≤ 9223372036854775807) :
    Calls Tryz.prog 18 #[.pointer (some ⟨g, 0, none⟩), .int .i64 n] w fun e w' => ∃ r : Int, 0 ≤ r ∧ r < n ∧ e = .returned (.int .i64 r) ∧ Live w' g N ad zs cap (a + 1) ∧ Turns g w w' := by
  refine (Tryz.nextW g N ad zs cap a n w h.st h.ints h.le h.pos ha h1 h2 h.len).mono ?_
  rintro e w' ⟨⟨r, hr1, hr2, rfl⟩, hst, hon⟩
  exact ⟨r, hr1, hr2, rfl, h.turn hon.turns hst (by have := h.pos; omega), hon.turns⟩

theorem Tryz.rangeL {w : World} {g N : Nat} {ad : Option Addr} {zs : List Int} {cap : Nat} {a : Int} (h : Live w g N ad zs cap a) (ha : a < 1000000) (lo hi : Int) (h1 : -4000000000 ≤ lo) (h2 : lo ≤ hi) (h3 : hi ≤ 4000000000) :
    Calls Tryz.prog 44 #[.pointer (some ⟨g, 0, none⟩), .int .i64 lo, .int .i64 hi] w fun e w' => ∃ r : Int, lo ≤ r ∧ r ≤ hi ∧ e = .returned (.int .i64 r) ∧ Live w' g N ad zs cap (a + 1) ∧ Turns g w w' := by
  refine (Tryz.range g N ad zs cap a lo hi w h.st h.ints h.le h.pos ha h1 h2 h3 h.len).mono ?_
  rintro e w' ⟨⟨r, hr1, hr2, rfl⟩, hst, hon⟩
  exact ⟨r, hr1, hr2, rfl, h.turn hon.turns hst (by have := h.pos; omega), hon.turns⟩

theorem Tryz.pickL {w : World} {g N : Nat} {ad : Option Addr} {zs : List Int} {cap : Nat} {a : Int} (h : Live w g N ad zs cap a) (ha : a < 1000000) (b m : Nat) (xs : List Int) (hm : m = xs.length) (hb : b ≠ g) (hx : w.heap[b]? = some (.cells (xs.map (Value.int .i64)).toArray 3)) (h1 : 1 ≤ xs.length) (h2 : xs.length ≤ 1000) :
    Calls Tryz.prog 43 #[.pointer (some ⟨g, 0, none⟩), .slice (some ⟨b, 0, none⟩) m m] w fun e w' => ∃ r : Int, r ∈ xs ∧ e = .returned (.int .i64 r) ∧ Live w' g N ad zs cap (a + 1) ∧ Turns g w w' := by
  subst hm
  refine (Tryz.pick g N ad zs cap a b xs w h.st h.ints h.le h.pos ha h.len hb hx h1 h2).mono ?_
  rintro e w' ⟨⟨r, hr, rfl⟩, hst, hon⟩
  exact ⟨r, hr, rfl, h.turn hon.turns hst (by have := h.pos; omega), hon.turns⟩

theorem Tryz.intL {w : World} {g N : Nat} {ad : Option Addr} {zs : List Int} {cap : Nat} {a : Int} (h : Live w g N ad zs cap a) (ha : a < 100000) :
    Calls Tryz.prog 41 #[.pointer (some ⟨g, 0, none⟩)] w fun e w' => ∃ r : Int, -9223372036854775808 ≤ r ∧ r ≤ 9223372036854775807 ∧ e = .returned (.int .i64 r) ∧ Live w' g N ad zs cap (a + 2) ∧ Turns g w w' := by
  refine (Tryz.intF g N ad zs cap a w h.st h.ints h.le h.pos ha h.len h.lt).mono ?_
  rintro e w' ⟨⟨r, hr1, hr2, rfl⟩, hst, h4, h5, h6⟩
  have ht : Turns g w w' := ⟨h4, fun k hk hg => h5 k hk hg, h6⟩
  exact ⟨r, hr1, hr2, rfl, h.turn ht hst (by have := h.pos; omega), ht⟩

theorem Tryz.flipL {w : World} {g N : Nat} {ad : Option Addr} {zs : List Int} {cap : Nat} {a : Int} (h : Live w g N ad zs cap a) (ha : a < 1000000) (n : Int) (h1 : 1 ≤ n) (h2 : n ≤ 9223372036854775807) :
    Calls Tryz.prog 50 #[.pointer (some ⟨g, 0, none⟩), .int .i64 n] w fun e w' => ∃ b : Bool, e = .returned (.bool b) ∧ Live w' g N ad zs cap (a + 1) ∧ Turns g w w' := by
  go_enter Tryz.func50, Tryz.ntmps50
  go_wp2_with (go_at_call 18; refine (Tryz.nextL h ha _ h1 h2).mono ?_; rintro e w' ⟨r, hr1, hr2, rfl, hl, ht⟩)
  go_ret
  exact ⟨_, rfl, hl, ht⟩

end Go.Proofs
