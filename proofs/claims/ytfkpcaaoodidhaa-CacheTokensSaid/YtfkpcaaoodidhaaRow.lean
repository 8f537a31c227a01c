/- Of a row of numbers that a call owns: cloned, sorted, compacted. No condition but that it is shorter than 100000000. -/
import Derived.Test.YtfkpcaaoodidhaaTok
namespace Go.Proofs
open Go.RowKit Go.Sort

/-- In w the slice v owns the numbers xs. -/
def OwnI (B : Nat) (v : Value) (xs : List Int) (W0 w : World) : Prop := Own B 3 1 v xs.length (xs.map (Value.int .i64)) W0 w

theorem OwnI.ints {B : Nat} {v : Value} {l : List Int} {W0 w : World} (h : OwnI B v l W0 w) (hs : ∀ x ∈ l, -9223372036854775808 ≤ x ∧ x ≤ 9223372036854775807) : ∃ ad cap, v = .slice ad l.length cap ∧ IntsAt w w.heap.size ad l ∧ l.length ≤ cap := by
  rcases h.1.2 with ⟨hv, hn⟩ | ⟨g, cap, cur, hv, hb, hg, hc, _⟩
  · refine ⟨none, 0, by rw [hv, hn], fun i hi => ?_, by omega⟩
    omega
  · refine ⟨some ⟨g, 0, none⟩, cap, hv, fun i hi => ⟨g, 0, rfl, (Array.getElem?_eq_some_iff.1 hg).1, ?_, hs _ (List.getElem_mem hi)⟩, hc⟩
    have := h.1.cells (g := g) (by rw [hv]; rfl) i (.int .i64 l[i]) (by simp [hi])
    rwa [show (⟨g, 0, none⟩ : Addr).add i = ⟨g, 0 + i, none⟩ by unfold Addr.add; split <;> simp_all] at this

theorem put_heap {w : World} {g k : Nat} {d : Array Int} {cur : Array Value} {e : TypeId} {fr : Nat × Nat} {os : Array Obj} (hg : w.heap[g]? = some (.cells cur e fr)) :
    (grow (putRow (Value.int .i64) (Sort.ahead w k) g 0 d) os).heap[g]? = some (.cells (putCells (Value.int .i64) 0 d cur) e fr) := by
  have hlt := (Array.getElem?_eq_some_iff.1 hg).1
  unfold grow putRow mapBlock Sort.ahead
  simp only
  rw [Array.getElem?_append_left (by simpa using hlt), Array.getElem?_modify, if_pos rfl, hg]
  rfl

theorem put_heap_ne {w : World} {g k j : Nat} {d : Array Int} {os : Array Obj} (hj : j < w.heap.size) (hne : g ≠ j) :
    (grow (putRow (Value.int .i64) (Sort.ahead w k) g 0 d) os).heap[j]? = w.heap[j]? := by
  unfold grow putRow mapBlock Sort.ahead
  simp only
  rw [Array.getElem?_append_left (by simpa using hj), Array.getElem?_modify, if_neg hne]

theorem put_take (d : Array Int) (cur : Array Value) (h : d.size ≤ cur.size) : (putCells (Value.int .i64) 0 d cur).toList.take d.size = d.toList.map (Value.int .i64) := by
  apply List.ext_getElem?
  intro i
  rw [List.getElem?_take]
  split
  · rename_i hi
    have hc : i < cur.size := by omega
    simp only [putCells, Array.getElem?_toList, Array.getElem?_mapIdx, List.getElem?_map]
    rw [Array.getElem?_eq_getElem hc, Array.getElem?_eq_getElem hi]
    simp [hi]
  · rename_i hi
    rw [List.getElem?_eq_none (by simp; omega)]

theorem own_put {B g n cap k : Nat} {xs : List Value} {W0 w : World} (h : Own B 3 1 (.slice (some ⟨g, 0, none⟩) n cap) n xs W0 w) (d : Array Int) (hd : d.size = n) (os : Array Obj) :
    Own B 3 1 (.slice (some ⟨g, 0, none⟩) n cap) n (d.toList.map (Value.int .i64)) W0 (grow (putRow (Value.int .i64) (Sort.ahead w k) g 0 d) os) := by
  obtain ⟨⟨hl, ho⟩, hb, hz⟩ := h
  rcases ho with ⟨hv, _⟩ | ⟨g', cap', cur, hv, hbg, hg, hnc, hcm, hcs, htake⟩
  · cases hv
  · simp only [Value.slice.injEq, Option.some.injEq, Addr.mk.injEq, and_true] at hv
    obtain ⟨rfl, _, rfl⟩ := hv
    refine ⟨⟨by simp [hd], .inr ⟨g, cap, _, rfl, hbg, put_heap hg, hnc, hcm, by simpa [putCells] using hcs, ?_⟩⟩, ⟨hb.os, hb.tape, hb.output, ?_, ?_⟩, ?_⟩
    · rw [Nat.mul_one, ← hd]
      exact put_take d cur (by omega)
    · have := hb.size
      simp only [size_grow, size_putRow]
      show W0.heap.size ≤ w.heap.size + os.size
      omega
    · intro j hj
      rw [put_heap_ne (by omega) (by omega)]
      exact hb.block j hj
    · simp only [size_grow, size_putRow]
      show B ≤ w.heap.size + os.size
      omega

theorem own_shrink {B g n m cap : Nat} {xs : List Value} {W0 w : World} (h : Own B 3 1 (.slice (some ⟨g, 0, none⟩) n cap) n xs W0 w) (hm : m ≤ n) : Own B 3 1 (.slice (some ⟨g, 0, none⟩) m cap) m (xs.take m) W0 w := by
  obtain ⟨⟨hl, ho⟩, hb, hz⟩ := h
  rcases ho with ⟨hv, _⟩ | ⟨g', cap', cur, hv, hbg, hg, hnc, hcm, hcs, htake⟩
  · cases hv
  · simp only [Value.slice.injEq, Option.some.injEq, Addr.mk.injEq, and_true] at hv
    obtain ⟨rfl, _, rfl⟩ := hv
    refine ⟨⟨by simp; omega, .inr ⟨g, cap, cur, rfl, hbg, hg, by omega, hcm, hcs, ?_⟩⟩, hb, hz⟩
    rw [← htake, List.take_take, Nat.mul_one, Nat.mul_one, Nat.min_eq_left hm]

theorem own_holds {B g cap : Nat} {l : List Int} {W0 w : World} (h : OwnI B (.slice (some ⟨g, 0, none⟩) l.length cap) l W0 w) : Holds (Value.int .i64) w g 0 l.toArray := by
  intro j hj
  have hj' : j < l.length := by simpa using hj
  have hc := h.1.cells (g := g) rfl j (.int .i64 l[j]) (by simp [hj'])
  rw [show (⟨g, 0, none⟩ : Addr).add j = ⟨g, 0 + j, none⟩ by unfold Addr.add; split <;> simp_all] at hc
  refine ⟨by rw [hc]; simp [hj'], ?_⟩
  rcases h.1.2 with ⟨hv, _⟩ | ⟨g', cap', cur, hv, hbg, hg, hnc, hcm, hcs, htake⟩
  · cases hv
  · simp only [Value.slice.injEq, Option.some.injEq, Addr.mk.injEq, and_true] at hv
    obtain ⟨rfl, _, rfl⟩ := hv
    simp [World.frozen?, hg]

theorem Try.clone (l : List Int) (ad : Option Addr) (ca : Nat) (w : World) (h : IntsAt w w.heap.size ad l) (la : l.length ≤ 100000000) (hca : ad = none → l = [] ∧ ca = 0) :
    Calls Try.prog 10 #[.slice ad l.length ca] w fun e w' => ∃ v, e = .returned v ∧ OwnI w.heap.size v l w w' := by
  cases l with
  | nil =>
    cases ad with
    | none =>
      refine (Try.slices_Clone_int_nil 0 ca w).mono ?_
      rintro e w' ⟨rfl, rfl⟩
      exact ⟨_, rfl, Own.start _ 3 1⟩
    | some a =>
      refine (Try.slices_Clone_int_zero a ca w).mono ?_
      rintro e w' ⟨v, rfl, h1, _, h3⟩
      exact ⟨_, rfl, h1, h3, h3.size⟩
  | cons x l =>
    obtain ⟨p, o, rfl, _⟩ := h 0 (by simp)
    refine (Try.slices_Clone_int p o (x :: l).length ca (x :: l) w (Nat.le_refl _) (by omega) (fun j hj => ?_)).mono ?_
    · obtain ⟨p', o', h1, h2, h3, _⟩ := h j hj
      simp only [Option.some.injEq, Addr.mk.injEq, and_true] at h1
      obtain ⟨rfl, rfl⟩ := h1
      rw [h3, List.getD_eq_getElem?_getD, List.getElem?_eq_getElem hj]
      rfl
    · rintro e w' ⟨v, rfl, h1, _, h3⟩
      rw [List.take_of_length_le (Nat.le_refl _)] at h1
      exact ⟨_, rfl, h1, h3, h3.size⟩

def sortL (l : List Int) : List Int := l.mergeSort fun x y => decide (x ≤ y)

theorem sortL_length (l : List Int) : (sortL l).length = l.length := List.length_mergeSort l

theorem Try.sort (B : Nat) (l : List Int) (v : Value) (W0 w : World) (h : OwnI B v l W0 w) (la : l.length ≤ 100000000) :
    Calls Try.prog 16 #[v] w fun e w' => e = .returned (.tuple #[]) ∧ OwnI B v (sortL l) W0 w' := by
  have h' := h
  rcases h.1.2 with ⟨hv, hn⟩ | ⟨g, cap, cur, hv, hb, hg, hc, _⟩
  · have hl : l = [] := List.eq_nil_of_length_eq_zero hn
    subst hl
    subst hv
    refine (Try.slices_Sort_int_none none 0 w).mono ?_
    rintro e w' ⟨rfl, rfl⟩
    rw [show sortL [] = [] by simp [sortL]]
    exact ⟨rfl, h⟩
  · subst hv
    refine (Try.slices_Sort_int g 0 cap l w (own_holds h) (Array.getElem?_eq_some_iff.1 hg).1 (by omega)).mono ?_
    rintro e w' ⟨rfl, n, os, rfl⟩
    refine ⟨rfl, ?_⟩
    have := own_put (k := n) h (sortL l).toArray (by simp [sortL_length]) os
    unfold OwnI
    rw [sortL_length]
    exact this

theorem compact_length (l : List Int) : (Lib.compact l).length ≤ l.length := by
  unfold Lib.compact Lib.compactUpTo
  rw [List.length_map]
  exact Nat.le_trans (List.length_filter_le _ _) (by simp)

theorem Try.compact (B : Nat) (l : List Int) (v : Value) (W0 w : World) (h : OwnI B v l W0 w) (la : l.length ≤ 100000000) :
    Calls Try.prog 17 #[v] w fun e w' => ∃ v', e = .returned v' ∧ OwnI B v' (Lib.compact l) W0 w' ∧ w.heap.size ≤ w'.heap.size := by
  rcases h.1.2 with ⟨hv, hn⟩ | ⟨g, cap, cur, hv, hb, hg, hc, _⟩
  · have hl : l = [] := List.eq_nil_of_length_eq_zero hn
    subst hl
    subst hv
    refine (Try.slices_Compact_int_empty none 0 w).mono ?_
    rintro e w' ⟨rfl, rfl⟩
    exact ⟨_, rfl, h, Nat.le_refl _⟩
  · subst hv
    refine (Try.slices_Compact_int g 0 cap l w (own_holds h) (by omega) hc).mono ?_
    rintro e w' ⟨rfl, q, rfl⟩
    refine ⟨_, rfl, ?_, by simp⟩
    have hcl := compact_length l
    have h1 := own_put (k := q) h (Lib.compact l ++ List.replicate (l.length - (Lib.compact l).length) 0).toArray (by simp; omega) #[]
    rw [grow_empty] at h1
    have h2 := own_shrink h1 hcl
    unfold OwnI
    simpa using h2
end Go.Proofs
