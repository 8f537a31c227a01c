/- Of an argument that is a list of values: where its values lie. No condition. -/
import Derived.Test.YtkpligcifakmjaaGreatDoorOrdL
import Derived.Test.YtkpligcifakmjaaGreatDoorVcCard
import Derived.Deep.Slices
import Derived.Deep.Fields
namespace Go.Proofs
open Go.ChangeShapes Go.WideShapes Go.Deep Go.RowKit

instance : Inhabited Val := ⟨Val.zero⟩

theorem cell_lt {W : World} {a : Addr} {v : Value} (h : W.cell? a = some v) : a.block < W.heap.size ∧ a.spot = none := by
  unfold World.cell? at h
  split at h
  · rename_i hc
    have := (Array.getElem?_eq_some_iff.1 hc).1
    split at h
    · cases h
    · rename_i hs
      exact ⟨this, by simpa using hs⟩
  · cases h

theorem add_none (ab ao n : Nat) : (⟨ab, ao, none⟩ : Addr).add n = ⟨ab, ao + n, none⟩ := by
  unfold Addr.add
  split
  · rename_i h; subst h; rfl
  · rfl

set_option maxRecDepth 100000 in
theorem rowAt_of {H : Type} {enc : TypeId × Value → H} {W : World} {r : Reach} {b0 : Nat} {held : Bool} {v : Value} {d : DataW H} {p : List MemPlace} (hv : Value.okWide Tryz.prog W r b0 39 v) (h : DataW.Trod enc Tryz.prog W 0 (fun _ => true) held 39 v d p) :
    ∃ ad, ∃ l : List Val, ∃ cap, v = .slice ad l.length cap ∧ RowAt W W.heap.size ad l ∧ l.length ≤ 9223372036854775807 := by
  obtain ⟨a, len, cap, rfl⟩ := okWide_slice Tryz.underlying39 hv
  obtain ⟨fuel, hf⟩ := h
  rcases open_slice Tryz.underlying39 hf with ⟨h0, _⟩ | ⟨a', len', cap', m, n, D, Pl, hcs, hb, hl, hm, hmm, hx, hi⟩
  · simp only [Value.cells, List.cons.injEq, Value.slice.injEq, and_true] at h0
    obtain ⟨rfl, rfl, rfl⟩ := h0
    exact ⟨none, [], 0, rfl, fun i hi => by simp at hi, by simp⟩
  · simp only [Value.cells, List.cons.injEq, Value.slice.injEq, and_true] at hcs
    obtain ⟨rfl, rfl, rfl⟩ := hcs
    simp only [if_true] at hmm
    have each : ∀ i, i < len → ∃ x : Val, W.cell? (a'.add (i * 3)) = some (.int .i64 x.k) ∧ W.cell? (a'.add (i * 3 + 1)) = some (.int .i64 x.n) ∧ W.cell? (a'.add (i * 3 + 2)) = some (.string x.s) ∧ x.s.size ≤ 9223372036854775807 := by
      intro i hi'
      obtain ⟨cs', hc, ht'⟩ := hi i (by omega)
      rw [show Tryz.prog.cellsOf 23 = 3 by kernel_rfl] at hc
      obtain ⟨ys, n', hn', hy, hlen, hyl, hg⟩ := DataW.trod_struct Tryz.underlying23 ht'
      obtain ⟨_, hcl, hat⟩ := World.cells?_some hc
      match cs', hcl with
      | [v0, v1, v2], _ =>
        match ys, hyl with
        | [y0, y1, y2], _ =>
          have g0 : DataW.trod enc Tryz.prog W 0 (fun _ => true) held n' 3 (List.take (Tryz.prog.cellsOf 3) [v0, v1, v2]) = some y0 := hg 0 _ rfl
          have g1 : DataW.trod enc Tryz.prog W 0 (fun _ => true) held n' 3 (List.take (Tryz.prog.cellsOf 3) [v1, v2]) = some y1 := hg 1 _ rfl
          have g2 : DataW.trod enc Tryz.prog W 0 (fun _ => true) held n' 9 (List.take (Tryz.prog.cellsOf 9) [v2]) = some y2 := hg 2 _ rfl
          rw [show Tryz.prog.cellsOf 3 = 1 by kernel_rfl] at g0 g1
          rw [show Tryz.prog.cellsOf 9 = 1 by kernel_rfl] at g2
          obtain ⟨k, e0, _, _⟩ := DataW.trod_int Tryz.underlying3 g0
          obtain ⟨z, e1, _, _⟩ := DataW.trod_int Tryz.underlying3 g1
          obtain ⟨s, e2, _, ws⟩ := DataW.trod_string Tryz.underlying9 g2
          cases e0
          cases e1
          cases e2
          have a0 := hat 0 (by omega)
          have a1 := hat 1 (by omega)
          have a2 := hat 2 (by omega)
          rw [Go.Deep.add_add] at a0 a1 a2
          exact ⟨⟨k, z, s⟩, a0, a1, a2, by unfold maxLen at ws; omega⟩
    obtain ⟨X, hX⟩ := choose_lt each
    refine ⟨some a', (List.range len).map X, cap, by simp, ?_, by simp; unfold maxLen at hm; omega⟩
    intro i hi
    simp only [List.length_map, List.length_range] at hi
    obtain ⟨c0, c1, c2, c3⟩ := hX i hi
    obtain ⟨z0, _⟩ := hX 0 (by omega)
    obtain ⟨ab, ao, asp⟩ := a'
    have hs := cell_lt z0
    have hs2 : asp = none := hs.2
    subst hs2
    rw [add_none] at c0 c1 c2
    refine ⟨ab, ao, rfl, hs.1, ?_, ?_, ?_, ?_⟩ <;> simp only [List.getElem_map, List.getElem_range] <;> assumption

end Go.Proofs
