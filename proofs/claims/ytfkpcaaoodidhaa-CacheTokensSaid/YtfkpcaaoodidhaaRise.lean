/- Of lists of numbers: rising just where sorted and without two equal neighbours. No condition. No program in sight. -/
import Derived.Lib.SlicesCompact
import Derived.WalkKit
namespace Go.Proofs

def risesB (l : List Int) (n : Nat) : Bool := (List.range (n - 1)).all fun j => decide (l.getD j 0 < l.getD (j + 1) 0)
def sortedB (l : List Int) : Bool := (List.range (l.length - 1)).all fun j => decide (l.getD j 0 ≤ l.getD (j + 1) 0)

theorem risesB_succ (l : List Int) (n : Nat) (h : 1 ≤ n) : risesB l (n + 1) = (risesB l n && decide (l.getD (n - 1) 0 < l.getD n 0)) := by
  unfold risesB
  rw [show n + 1 - 1 = n - 1 + 1 by omega, List.range_succ, List.all_append]
  simp only [List.all_cons, List.all_nil, Bool.and_true]
  rw [show n - 1 + 1 = n by omega]

theorem keeps_at (l : List Int) {j : Nat} (h : j + 1 < l.length) : Lib.keeps l.toArray (j + 1) = decide (l.getD (j + 1) 0 ≠ l.getD j 0) := by
  have h0 : j < l.length := by omega
  unfold Lib.keeps
  congr 1
  simp [h, h0]

theorem compact_full (l : List Int) : (Lib.compact l).length = l.length ↔ ∀ j, j + 1 < l.length → l.getD (j + 1) 0 ≠ l.getD j 0 := by
  have e : (Lib.compact l).length = ((List.range l.length).filter (Lib.keeps l.toArray)).length := by
    unfold Lib.compact Lib.compactUpTo
    rw [List.length_map]
  rw [e]
  have hr : (List.range l.length).length = l.length := List.length_range
  constructor
  · intro h j hj
    have hall := List.length_filter_eq_length_iff.1 (h.trans hr.symm)
    have := hall (j + 1) (List.mem_range.2 hj)
    rw [keeps_at l hj] at this
    simpa using this
  · intro h
    rw [List.filter_eq_self.2, hr]
    intro j hj
    have hj := List.mem_range.1 hj
    cases j with
    | zero => simp [Lib.keeps]
    | succ j =>
      rw [keeps_at l hj]
      simpa using h j hj

theorem rises_law (l : List Int) : risesB l l.length = (sortedB l && decide ((Lib.compact l).length = l.length)) := by
  rw [Bool.eq_iff_iff, Bool.and_eq_true, decide_eq_true_eq, compact_full]
  unfold risesB sortedB
  simp only [List.all_eq_true, List.mem_range, decide_eq_true_eq]
  constructor
  · intro h
    exact ⟨fun j hj => by have := h j hj; omega, fun j hj => by have := h j (by omega); omega⟩
  · rintro ⟨h1, h2⟩ j hj
    have := h1 j hj
    have := h2 j (by omega)
    omega
end Go.Proofs
