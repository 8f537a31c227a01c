/- Of a row of values that a call owns. No condition. -/
import Derived.Test.YtfkpcaaoodidhaaHash
namespace Go.Proofs
open Go.RowKit
open Go.Lib (byteCells strCells)

def valCells (l : List Val) : List Value := l.flatMap fun x => [.int .i64 x.k, .int .i64 x.n, .string x.s]

theorem valCells_snoc (l : List Val) (x : Val) : valCells (l ++ [x]) = valCells l ++ [.int .i64 x.k, .int .i64 x.n, .string x.s] := by
  simp [valCells]

theorem alloc_one (w : World) (o : Obj) : (w.alloc o).heap.size = w.heap.size + 1 := by unfold World.alloc; simp

section
variable {P : Program}

theorem wp_append_val {o : Oper} {a : Act} {K : Act → World → Prop} {Q : Exit → Act → World → Prop} {w : World} (s x : Operand) (t : TypeId)
    (ho : o.op = .call { callee := .builtin .append, args := #[s, x], argTypes := #[t, t] })
    (B : Nat) (e : TypeId) (i : TypeInfo) (z : Value) (ht : P.underlying t = some (.slice e)) (hi : P.info? e = some i) (hz : i.zero = some z) (hzs : z.cells.size = 3) (hsize : i.size = 3) (hby : i.bytes = 32)
    (v : Value) (n : Nat) (xs : List Value) (W0 : World) (hb : Own B e 3 v n xs W0 w)
    (g : Nat) (y : Val) (hg : w.heap[g]? = some (.cells #[.int .i64 y.k, .int .i64 y.n, .string y.s] e)) (hlen : n + 1 ≤ 1000000000) (hs : a.eval s = v) (hx : a.eval x = .slice (some ⟨g, 0, none⟩) 1 1)
    (h : ∀ v' w', Own B e 3 v' (n + 1) (xs ++ [.int .i64 y.k, .int .i64 y.n, .string y.s]) W0 w' → K (a.put o.dst v') w') : o.wp P a w K Q := by
  refine wp_append_own w s x t ho B e i z 3 32 ht hi hz hsize hby hzs (by decide) v n xs hs hb.1 ⟨g, 0, none⟩ 1 1 [.int .i64 y.k, .int .i64 y.n, .string y.s] hx rfl ?_ ?_ (by unfold maxLen; omega) (by omega) hb.2.2 ?_
  · intro j u hj
    match j, hj with
    | 0, hj => simp at hj; subst hj; simp [Addr.add, World.cell?, hg]
    | 1, hj => simp at hj; subst hj; simp [Addr.add, World.cell?, hg]
    | 2, hj => simp at hj; subst hj; simp [Addr.add, World.cell?, hg]
    | (j + 3), hj => simp at hj
  · intro u hu
    simp only [List.mem_cons, List.mem_nil_iff, or_false] at hu
    rcases hu with rfl | rfl | rfl <;> rfl
  · intro v' w' ho' hgr _
    exact h v' w' (hb.grown ho' hgr)

theorem append_val {ops : Array Oper} {rest : List Oper} {o : Oper} {a : Act} {Q : Exit → Act → World → Prop} (hgd : o.guard = none) (s x : Operand) (t : TypeId)
    (ho : o.op = .call { callee := .builtin .append, args := #[s, x], argTypes := #[t, t] })
    (B : Nat) (e : TypeId) (i : TypeInfo) (z : Value) (ht : P.underlying t = some (.slice e)) (hi : P.info? e = some i) (hz : i.zero = some z) (hzs : z.cells.size = 3) (hsize : i.size = 3) (hby : i.bytes = 32)
    (v : Value) (n : Nat) (xs : List Value) (W0 w0 : World) (hb : Own B e 3 v n xs W0 w0)
    (y : Val) (hlen : n + 1 ≤ 1000000000) (hs : a.eval s = v) (hx : ∃ G, a.eval x = .slice (some ⟨G, 0, none⟩) 1 1 ∧ w0.heap.size = G)
    (h : ∀ v' w', Own B e 3 v' (n + 1) (xs ++ [.int .i64 y.k, .int .i64 y.n, .string y.s]) W0 w' → wpList P ops Q rest (a.put o.dst v') w') : wpList P ops Q (o :: rest) a (w0.alloc (.cells #[.int .i64 y.k, .int .i64 y.n, .string y.s] e)) :=
  wpList_plain hgd fun _ hK => wp_append_val s x t ho B e i z ht hi hz hzs hsize hby v n xs W0 (hb.alloc _) w0.heap.size y (heap_alloc_new w0 _) hlen hs (by obtain ⟨G, h1, h2⟩ := hx; rw [h1, h2]) fun v' w' h2 => hK _ _ (h v' w' h2)

end

/-- At the address lie the values of a list. -/
def Row3 (w : World) (N : Nat) (ad : Option Addr) (l : List Val) : Prop :=
  ∀ i (h : i < l.length), ∃ p o, ad = some ⟨p, o, none⟩ ∧ p < N ∧ w.cell? ⟨p, o + i * 3, none⟩ = some (.int .i64 l[i].k) ∧ w.cell? ⟨p, o + i * 3 + 1, none⟩ = some (.int .i64 l[i].n) ∧ w.cell? ⟨p, o + i * 3 + 2, none⟩ = some (.string l[i].s)

theorem Row3.below {w w' : World} {N : Nat} {ad : Option Addr} {l : List Val} (h : Row3 w N ad l) (hb : Below N w w') : Row3 w' N ad l := by
  intro i hi
  obtain ⟨p, o, h1, h2, h3, h4, h5⟩ := h i hi
  exact ⟨p, o, h1, h2, (hb.cell h2).trans h3, (hb.cell h2).trans h4, (hb.cell h2).trans h5⟩

theorem Row3.later {w w' : World} {ad : Option Addr} {l : List Val} (h : Row3 w w.heap.size ad l) (hb : Below w.heap.size w w') : Row3 w' w'.heap.size ad l := by
  intro i hi
  obtain ⟨p, o, h1, h2, h3⟩ := h.below hb i hi
  exact ⟨p, o, h1, Nat.lt_of_lt_of_le h2 hb.size, h3⟩

theorem valCells_at (l : List Val) : ∀ (i : Nat) (h : i < l.length), (valCells l)[i * 3]? = some (.int .i64 l[i].k) ∧ (valCells l)[i * 3 + 1]? = some (.int .i64 l[i].n) ∧ (valCells l)[i * 3 + 2]? = some (.string l[i].s) := by
  induction l with
  | nil => intro i h; simp at h
  | cons x l ih =>
    intro i h
    have e : valCells (x :: l) = .int .i64 x.k :: .int .i64 x.n :: .string x.s :: valCells l := by simp [valCells]
    rw [e]
    match i, h with
    | 0, _ => simp
    | i + 1, h =>
      have := ih i (by simpa using h)
      rw [show (i + 1) * 3 = i * 3 + 1 + 1 + 1 by omega, show i * 3 + 1 + 1 + 1 + 1 = (i * 3 + 1) + 1 + 1 + 1 by omega, show i * 3 + 1 + 1 + 1 + 2 = (i * 3 + 2) + 1 + 1 + 1 by omega]
      simpa using this

theorem Own.row {B : Nat} {v : Value} {l : List Val} {W0 w : World} (h : Own B 55 3 v l.length (valCells l) W0 w) : ∃ ad cap, v = .slice ad l.length cap ∧ Row3 w w.heap.size ad l := by
  rcases h.1.2 with ⟨hv, hn⟩ | ⟨g, cap, cur, hv, hb, hg, _⟩
  · refine ⟨none, 0, by rw [hv, hn], fun i hi => ?_⟩
    omega
  · refine ⟨some ⟨g, 0, none⟩, cap, hv, fun i hi => ⟨g, 0, rfl, (Array.getElem?_eq_some_iff.1 hg).1, ?_⟩⟩
    have hc := h.1.cells (g := g) (by rw [hv]; rfl)
    have ha : ∀ j, (⟨g, 0, none⟩ : Addr).add j = ⟨g, 0 + j, none⟩ := fun j => by unfold Addr.add; split <;> simp_all
    obtain ⟨h0, h1, h2⟩ := valCells_at l i hi
    have c0 := hc _ _ h0
    have c1 := hc _ _ h1
    have c2 := hc _ _ h2
    rw [ha] at c0 c1 c2
    exact ⟨c0, c1, c2⟩

end Go.Proofs
