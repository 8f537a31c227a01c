/- Of package dumbmake: values of any kind out of a stream. No condition. -/
import Derived.Test.YtkpligcifakmjaaGreatDoorTxt
namespace Go.Proofs
open Go.RowKit Go.Ke

/-- The result's block, still empty, and a value's block behind it. -/
structure AnyAt (g : Nat) (w W : World) (q : Nat) (x : Val) : Prop where
  res : W.heap[w.heap.size]? = some (.cells #[.int .i64 0, .int .i64 0, .string ⟨#[]⟩] 23)
  val : W.heap[q]? = some (.cells #[.int .i64 x.k, .int .i64 x.n, .string x.s] 23)
  lt : w.heap.size < q
  turns : Turns g w W

theorem AnyAt.turn {g q : Nat} {w W W' : World} {x : Val} (h : AnyAt g w W q x) (hg : g < w.heap.size) (ht : Turns g W W') : AnyAt g w W' q x :=
  ⟨ht.block h.res (by omega), ht.block h.val (by have := h.lt; omega), h.lt, h.turns.trans ht⟩

theorem AnyAt.cells {g q : Nat} {w W : World} {x : Val} (h : AnyAt g w W q x) :
    (W.cell? ⟨q, 0, none⟩ = some (.int .i64 x.k) ∧ W.cell? ⟨q, 1, none⟩ = some (.int .i64 x.n) ∧ W.cell? ⟨q, 2, none⟩ = some (.string x.s)) ∧
    (W.frozen? ⟨q, 0, none⟩ = false ∧ W.frozen? ⟨q, 1, none⟩ = false ∧ W.frozen? ⟨q, 2, none⟩ = false) := by
  refine ⟨⟨?_, ?_, ?_⟩, ?_, ?_, ?_⟩ <;> simp [World.cell?, World.frozen?, h.val]

theorem AnyAt.setN {g q : Nat} {w W : World} {x : Val} (n : Int) (h : AnyAt g w W q x) (hg : g < w.heap.size) : AnyAt g w (W.setCell ⟨q, 1, none⟩ (.int .i64 n)) q ⟨x.k, n, x.s⟩ :=
  ⟨(block_set_ne (by have := h.lt; omega)).trans h.res, block_set h.val, h.lt, h.turns.set (by have := h.lt; omega) (by have := h.lt; omega)⟩

theorem AnyAt.setS {g q : Nat} {w W : World} {x : Val} (s : ByteArray) (h : AnyAt g w W q x) (hg : g < w.heap.size) : AnyAt g w (W.setCell ⟨q, 2, none⟩ (.string s)) q ⟨x.k, x.n, s⟩ :=
  ⟨(block_set_ne (by have := h.lt; omega)).trans h.res, block_set h.val, h.lt, h.turns.set (by have := h.lt; omega) (by have := h.lt; omega)⟩

end Go.Proofs
