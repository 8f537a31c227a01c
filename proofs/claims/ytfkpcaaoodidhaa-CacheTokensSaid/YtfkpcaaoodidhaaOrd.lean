/- Of package value and of the document's package: what is right. No condition. -/
import Derived.Test.YtfkpcaaoodidhaaVal
import Derived.StillTailTactics
import Derived.Laws.Cover1
import Derived.Deep.CutRange
import Derived.Deep.RegionWith
namespace Go.Proofs
open Go.RowKit

structure Val where
  k : Int
  n : Int
  s : ByteArray

def Val.v (x : Val) : Value := valV x.k x.n x.s

def Val.zero : Val := ⟨0, 0, ⟨#[]⟩⟩

def Val.fine (x : Val) : Bool := formB x.k x.n x.s && decide ((x.s.size : Int) ≤ 100) && rangeB x.k x.n x.s

def Val.plain (x : Val) : Val := if x.fine then x else Val.zero

/-- What a call leaves of two boxes. -/
theorem two_kept {w w' : World} {o1 o2 : Obj} (h : Below ((w.alloc o1).alloc o2).heap.size ((w.alloc o1).alloc o2) w') : w'.heap[w.heap.size]? = some o1 ∧ w'.heap[w.heap.size + 1]? = some o2 ∧ w.heap.size + 1 < w'.heap.size ∧ Below w.heap.size w w' := by
  have h1 : ((w.alloc o1).alloc o2).heap.size = w.heap.size + 2 := by unfold World.alloc; simp
  have hs := h.size
  refine ⟨?_, ?_, by omega, ?_⟩
  · rw [h.block _ (by omega)]; unfold World.alloc; simp [Array.getElem?_push]
  · rw [h.block _ (by omega)]; exact heap_alloc2_new _ _ _
  · exact (((Below.refl _ w).alloc (Nat.le_refl _) o1).alloc (by unfold World.alloc; simp) o2).trans (h.mono (by omega))

set_option maxRecDepth 20000 in
theorem Try.right (k n : Int) (s : ByteArray) (hs : s.size ≤ 9223372036854775807) (w : World) : Calls Try.prog 96 #[valV k n s] w fun e w' => e = .returned (.bool (Val.fine ⟨k, n, s⟩)) ∧ Below w.heap.size w w' := by
  unfold valV
  go_enter Try.func96, Try.ntmps96
  go_wp2_with (first
    | (go_at_call 55; refine (Try.form _ _ _ _).mono ?_; rintro e w' ⟨rfl, hb⟩; obtain ⟨c0, c1, c2, hz, hb'⟩ := box_kept hb; clear hb)
    | (go_at_call 56; refine (Try.inRange _ _ _ hs _).mono ?_; rintro e w2 ⟨rfl, hb2⟩))
  all_goals (go_ret; refine ⟨congrArg (fun z => Ending.returned (.bool z)) ?_, ?_⟩)
  all_goals first
    | (show _ = Val.fine _; unfold Val.fine; simp [*]; done)
    | (show _ = Val.fine _; unfold Val.fine; grind)
    | exact hb'
    | exact hb'.trans (hb2.mono (by omega))
    | skip

set_option maxRecDepth 20000 in
theorem Try.plainV (k n : Int) (s : ByteArray) (hs : s.size ≤ 9223372036854775807) (w : World) : Calls Try.prog 88 #[valV k n s] w fun e w' => e = .returned (Val.plain ⟨k, n, s⟩).v ∧ Below w.heap.size w w' := by
  unfold valV
  go_enter Try.func88, Try.ntmps88
  go_wp2_with (first
    | (go_at_call 96; refine (Try.right _ _ _ hs _).mono ?_; rintro e w' ⟨rfl, hb⟩; obtain ⟨b1, b2, hz, hb'⟩ := two_kept hb; clear hb; have c0 : w'.cell? ⟨w.heap.size, 0, none⟩ = some (.int .i64 k) := (by simp [World.cell?, b1]); have c1 : w'.cell? ⟨w.heap.size, 1, none⟩ = some (.int .i64 n) := (by simp [World.cell?, b1]); have c2 : w'.cell? ⟨w.heap.size, 2, none⟩ = some (.string s) := (by simp [World.cell?, b1]); have d0 : w'.cell? ⟨w.heap.size + 1, 0, none⟩ = some (.int .i64 0) := (by simp [World.cell?, b2]); have d1 : w'.cell? ⟨w.heap.size + 1, 1, none⟩ = some (.int .i64 0) := (by simp [World.cell?, b2]); have d2 : w'.cell? ⟨w.heap.size + 1, 2, none⟩ = some (.string ⟨#[]⟩) := (by simp [World.cell?, b2]); have f0 : w'.frozen? ⟨w.heap.size + 1, 0, none⟩ = false := (by simp [World.frozen?, b2]); have f1 : w'.frozen? ⟨w.heap.size + 1, 1, none⟩ = false := (by simp [World.frozen?, b2]); have f2 : w'.frozen? ⟨w.heap.size + 1, 2, none⟩ = false := (by simp [World.frozen?, b2])))
  · refine bodyPost_ret (v := valV k n s) (by simp [results, Try.results88, go_sem, valV, *]) rfl ⟨?_, ?_⟩
    · rename_i hf
      simp [Val.plain, hf, Val.v]
    · refine Below.setCell (Below.setCell (Below.setCell hb' ?_ _) ?_ _) ?_ _ <;> exact Nat.le_succ _
  · refine bodyPost_ret (v := valV 0 0 ⟨#[]⟩) (by simp [results, Try.results88, go_sem, valV, *]) rfl ⟨?_, ?_⟩
    · rename_i hf
      simp [Val.plain, hf, Val.v, Val.zero]
    · refine Below.setCell (Below.setCell (Below.setCell hb' ?_ _) ?_ _) ?_ _ <;> exact Nat.le_succ _

theorem Try.anyFault (k n : Int) (s : ByteArray) (hs : s.size ≤ 9223372036854775807) (w : World) : Calls Try.prog 90 #[valV k n s] w fun e w' => e = .returned (.int .i64 (faultN 0 k n s)) ∧ Below w.heap.size w w' := by
  unfold valV
  go_enter Try.func90, Try.ntmps90
  go_wp2_with (first
    | (go_at_call 70; refine (Try.fault _ _ _ _ hs _).mono ?_; rintro e w2 ⟨rfl, hb⟩))
  go_ret
  exact ⟨rfl, below_call hb⟩

/-- Both packages call the same values right. -/
theorem fine_fault (k n : Int) (s : ByteArray) : (faultN 0 k n s != 0) = !Val.fine ⟨k, n, s⟩ := by
  have he : s.toList.isEmpty = true → printB s = true := fun h => by
    unfold printB
    rw [← ByteArray.toList_eq, List.isEmpty_iff.mp h]
    rfl
  have hz : s.toList.isEmpty = true → (s.size : Int) = 0 := fun h => by
    have h1 : s.data.toList.length = 0 := by rw [← ByteArray.toList_eq, List.isEmpty_iff.mp h]; rfl
    have h2 : s.data.toList.length = s.size := Array.length_toList
    omega
  unfold faultN Val.fine formB rangeB
  dsimp only
  generalize s.toList.isEmpty = e at *
  generalize printB s = p at *
  generalize (s.size : Int) = z at *
  unfold inB
  by_cases h0 : k = 0
  · subst h0; cases e <;> cases p <;> simp_all <;> grind
  by_cases h1 : k = 1
  · subst h1; cases e <;> cases p <;> simp_all <;> grind
  by_cases h2 : k = 2
  · subst h2; cases e <;> cases p <;> simp_all <;> grind
  by_cases h3 : k = 3
  · subst h3; cases e <;> cases p <;> simp_all <;> grind
  by_cases h4 : k = 4
  · subst h4; cases e <;> cases p <;> simp_all <;> grind
  · have a1 : (decide (0 ≤ k) && decide (k ≤ 4)) = false := by
      cases hh : decide (0 ≤ k) && decide (k ≤ 4) with
      | false => rfl
      | true => simp only [Bool.and_eq_true, decide_eq_true_eq] at hh; omega
    have a2 : (decide (1 ≤ k) && decide (k ≤ 4)) = false := by
      cases hh : decide (1 ≤ k) && decide (k ≤ 4) with
      | false => rfl
      | true => simp only [Bool.and_eq_true, decide_eq_true_eq] at hh; omega
    have b0 : (k == 0) = false := by simpa using h0
    have b3 : (k == 3) = false := by simpa using h3
    simp only [a1, a2, b0, b3, Bool.false_eq_true, if_false, Bool.false_and, Bool.not_false, Bool.true_or, if_true]
    grind

set_option maxRecDepth 20000 in
theorem Try.plainR (k n : Int) (s : ByteArray) (hs : s.size ≤ 9223372036854775807) (w : World) : Calls Try.prog 72 #[valV k n s] w fun e w' => e = .returned (Val.plain ⟨k, n, s⟩).v ∧ Below w.heap.size w w' := by
  have hff := fine_fault k n s
  unfold valV
  go_enter Try.func72, Try.ntmps72
  go_wp2_with (first
    | (go_at_call 90; refine (Try.anyFault _ _ _ hs _).mono ?_; rintro e w' ⟨rfl, hb⟩; obtain ⟨b1, b2, hz, hb'⟩ := two_kept hb; clear hb; have c0 : w'.cell? ⟨w.heap.size, 0, none⟩ = some (.int .i64 k) := (by simp [World.cell?, b1]); have c1 : w'.cell? ⟨w.heap.size, 1, none⟩ = some (.int .i64 n) := (by simp [World.cell?, b1]); have c2 : w'.cell? ⟨w.heap.size, 2, none⟩ = some (.string s) := (by simp [World.cell?, b1]); have d0 : w'.cell? ⟨w.heap.size + 1, 0, none⟩ = some (.int .i64 0) := (by simp [World.cell?, b2]); have d1 : w'.cell? ⟨w.heap.size + 1, 1, none⟩ = some (.int .i64 0) := (by simp [World.cell?, b2]); have d2 : w'.cell? ⟨w.heap.size + 1, 2, none⟩ = some (.string ⟨#[]⟩) := (by simp [World.cell?, b2]); have f0 : w'.frozen? ⟨w.heap.size + 1, 0, none⟩ = false := (by simp [World.frozen?, b2]); have f1 : w'.frozen? ⟨w.heap.size + 1, 1, none⟩ = false := (by simp [World.frozen?, b2]); have f2 : w'.frozen? ⟨w.heap.size + 1, 2, none⟩ = false := (by simp [World.frozen?, b2])))
  all_goals rename_i hf
  · have hfin : Val.fine ⟨k, n, s⟩ = false := by simpa [hff] using hf
    refine bodyPost_ret (v := valV 0 0 ⟨#[]⟩) (by simp [results, Try.results72, go_sem, valV, *]) rfl ⟨?_, ?_⟩
    · simp [Val.plain, hfin, Val.v, Val.zero]
    · refine Below.setCell (Below.setCell (Below.setCell hb' ?_ _) ?_ _) ?_ _ <;> exact Nat.le_succ _
  · have hfin : Val.fine ⟨k, n, s⟩ = true := by simpa [hff] using hf
    refine bodyPost_ret (v := valV k n s) (by simp [results, Try.results72, go_sem, valV, *]) rfl ⟨?_, ?_⟩
    · simp [Val.plain, hfin, Val.v]
    · refine Below.setCell (Below.setCell (Below.setCell hb' ?_ _) ?_ _) ?_ _ <;> exact Nat.le_succ _

theorem block_set {W : World} {g i : Nat} {v : Value} {cs : Array Value} {t : TypeId} {fr : Nat × Nat} (h : W.heap[g]? = some (.cells cs t fr)) : (W.setCell ⟨g, i, none⟩ v).heap[g]? = some (.cells (cs.setIfInBounds i v) t fr) := by
  simp [World.setCell, Array.getElem?_modify, h]

theorem block_set_ne {W : World} {g g' i : Nat} {v : Value} (h : g ≠ g') : (W.setCell ⟨g, i, none⟩ v).heap[g']? = W.heap[g']? := by
  simp [World.setCell, Array.getElem?_modify, h]

theorem size_set {W : World} {a : Addr} {v : Value} : (W.setCell a v).heap.size = W.heap.size := by
  simp [World.setCell]

theorem plain_bounds (x : Val) : (0 ≤ x.plain.k ∧ x.plain.k ≤ 4) ∧ (-999999999999999 ≤ x.plain.n ∧ x.plain.n ≤ 999999999999999) ∧ (x.plain.k = 3 → x.plain.n = 0) ∧ (x.plain.k ≠ 3 → x.plain.s.toList.isEmpty = true) ∧ x.plain.s.size ≤ 100 := by
  unfold Val.plain
  cases h : x.fine with
  | false => simp [Val.zero]; decide
  | true =>
    obtain ⟨k, n, s⟩ := x
    simp only [if_true]
    unfold Val.fine formB rangeB inB at h
    simp only [Bool.and_eq_true, decide_eq_true_eq] at h
    obtain ⟨⟨h1, h2⟩, h3⟩ := h
    have h2 : s.size ≤ 100 := by omega
    by_cases h0 : k = 0
    · subst h0; simp_all
    by_cases h3 : k = 3
    · subst h3; simp_all
    by_cases h4 : k = 1
    · subst h4; simp_all; omega
    by_cases h5 : k = 2
    · subst h5; simp_all
    by_cases h6 : k = 4
    · subst h6; simp_all; omega
    · simp_all; omega

/-- At the address lie the values of a list, all in blocks below N. -/
def RowAt (w : World) (N : Nat) (ad : Option Addr) (l : List Val) : Prop :=
  ∀ i (h : i < l.length), ∃ p o, ad = some ⟨p, o, none⟩ ∧ p < N ∧ w.cell? ⟨p, o + i * 3, none⟩ = some (.int .i64 l[i].k) ∧ w.cell? ⟨p, o + i * 3 + 1, none⟩ = some (.int .i64 l[i].n) ∧ w.cell? ⟨p, o + i * 3 + 2, none⟩ = some (.string l[i].s) ∧ l[i].s.size ≤ 9223372036854775807

theorem RowAt.below {w w' : World} {N : Nat} {ad : Option Addr} {l : List Val} (h : RowAt w N ad l) (hb : Below N w w') : RowAt w' N ad l := by
  intro i hi
  obtain ⟨p, o, h1, h2, h3, h4, h5, h6⟩ := h i hi
  exact ⟨p, o, h1, h2, (hb.cell h2).trans h3, (hb.cell h2).trans h4, (hb.cell h2).trans h5, h6⟩

theorem RowAt.later {w w' : World} {ad : Option Addr} {l : List Val} (h : RowAt w w.heap.size ad l) (hb : Below w.heap.size w w') : RowAt w' w'.heap.size ad l := by
  intro i hi
  obtain ⟨p, o, h1, h2, h3⟩ := h.below hb i hi
  exact ⟨p, o, h1, Nat.lt_of_lt_of_le h2 hb.size, h3⟩

theorem cell_block {W : World} {g i : Nat} {cs : Array Value} {t : TypeId} {fr : Nat × Nat} (h : W.heap[g]? = some (.cells cs t fr)) : W.drew.cell? ⟨g, i, none⟩ = cs[i]? := by
  show W.cell? _ = _
  simp [World.cell?, h]

/-- What a call leaves of a box that it does not know. -/
theorem one_kept {w w' : World} {o : Obj} (h : Below (w.alloc o).heap.size (w.alloc o) w') : w'.heap[w.heap.size]? = some o ∧ w.heap.size < w'.heap.size ∧ Below w.heap.size w w' := by
  have h1 : (w.alloc o).heap.size = w.heap.size + 1 := by unfold World.alloc; simp
  have hs := h.size
  exact ⟨(h.block _ (by omega)).trans (heap_alloc_new w o), by omega, below_call h⟩

end Go.Proofs
