/- Of package value and of the document's package: the small functions on dates and numbers. No condition. -/
import Derived.Test.YtkpligcifakmjaaGreatDoorOrdR
import Derived.Test.YtkpligcifakmjaaGreatDoorCal
namespace Go.Proofs
open Go.RowKit

theorem tmod_zero (y k : Int) : y.tmod k = 0 ↔ y % k = 0 := by rw [← Int.dvd_iff_tmod_eq_zero, ← Int.dvd_iff_emod_eq_zero]

theorem Tryz.leapA (y : Int) (w : World) : Calls Tryz.prog 104 #[.int .i64 y] w fun e w' => e = .returned (.bool (leapB y)) ∧ w' = w := by
  have h4 := tmod_zero y 4
  have h100 := tmod_zero y 100
  have h400 := tmod_zero y 400
  go_enter Tryz.func104, Tryz.ntmps104
  go_wp2
  all_goals go_ret
  all_goals refine ⟨congrArg (fun z => Ending.returned (.bool z)) ?_, rfl⟩
  all_goals (show _ = leapB _; unfold leapB; grind)

theorem Tryz.leapC (y : Int) (w : World) : Calls Tryz.prog 105 #[.int .i64 y] w fun e w' => e = .returned (.bool (leapB y)) ∧ w' = w := by
  have h4 := tmod_zero y 4
  have h100 := tmod_zero y 100
  have h400 := tmod_zero y 400
  go_enter Tryz.func105, Tryz.ntmps105
  go_wp2
  all_goals go_ret
  all_goals refine ⟨congrArg (fun z => Ending.returned (.bool z)) ?_, rfl⟩
  all_goals (show _ = leapB _; unfold leapB; grind)

theorem Tryz.monthDaysA (y m : Int) (w : World) : Calls Tryz.prog 60 #[.int .i64 y, .int .i64 m] w fun e w' => e = .returned (.int .i64 (mdays y m)) ∧ w' = w := by
  go_enter Tryz.func60, Tryz.ntmps60
  go_wp2_with (go_at_call 104; refine (Tryz.leapA _ _).mono ?_; rintro e w' ⟨rfl, rfl⟩)
  all_goals go_ret
  all_goals refine ⟨congrArg (fun z => Ending.returned (.int .i64 z)) ?_, rfl⟩
  all_goals (show _ = mdays _ _; unfold mdays; simp [*])

theorem Tryz.monthDaysC (y m : Int) (w : World) : Calls Tryz.prog 62 #[.int .i64 y, .int .i64 m] w fun e w' => e = .returned (.int .i64 (mdays y m)) ∧ w' = w := by
  go_enter Tryz.func62, Tryz.ntmps62
  go_wp2_with (go_at_call 105; refine (Tryz.leapC _ _).mono ?_; rintro e w' ⟨rfl, rfl⟩)
  all_goals go_ret
  all_goals refine ⟨congrArg (fun z => Ending.returned (.int .i64 z)) ?_, rfl⟩
  all_goals (show _ = mdays _ _; unfold mdays; simp [*]; try grind)

theorem Tryz.yearDaysC (y : Int) (w : World) : Calls Tryz.prog 63 #[.int .i64 y] w fun e w' => e = .returned (.int .i64 (ydays y)) ∧ w' = w := by
  go_enter Tryz.func63, Tryz.ntmps63
  go_wp2_with (go_at_call 105; refine (Tryz.leapC _ _).mono ?_; rintro e w' ⟨rfl, rfl⟩)
  all_goals go_ret
  all_goals refine ⟨congrArg (fun z => Ending.returned (.int .i64 z)) ?_, rfl⟩
  all_goals (show _ = ydays _; unfold ydays; simp [*])

theorem Tryz.yearDayA (y : Int) (h1 : 1 ≤ y) (h2 : y ≤ 1000000000) (w : World) : Calls Tryz.prog 61 #[.int .i64 y] w fun e w' => e = .returned (.int .i64 (yday y)) ∧ w' = w := by
  have e4 : (y - 1).tdiv 4 = (y - 1) / 4 := Int.tdiv_eq_ediv_of_nonneg (by omega)
  have e100 : (y - 1).tdiv 100 = (y - 1) / 100 := Int.tdiv_eq_ediv_of_nonneg (by omega)
  have e400 : (y - 1).tdiv 400 = (y - 1) / 400 := Int.tdiv_eq_ediv_of_nonneg (by omega)
  go_enter Tryz.func61, Tryz.ntmps61
  go_wp2
  go_ret
  exact ⟨rfl, rfl⟩

theorem Tryz.floorA (a : Int) (h1 : -9000000000000000 ≤ a) (h2 : a ≤ 9000000000000000) (w : World) : Calls Tryz.prog 66 #[.int .i64 a, .int .i64 12] w fun e w' => e = .returned (.int .i64 (a / 12)) ∧ w' = w := by
  have h := tmod_zero a 12
  have hd : a.tdiv 12 = if 0 ≤ a ∨ a % 12 = 0 then a / 12 else a / 12 + 1 := by
    rw [Int.tdiv_eq_ediv]
    simp only [Int.dvd_iff_emod_eq_zero]
    split <;> simp
  have hl : -9000000000000000 ≤ a.tdiv 12 ∧ a.tdiv 12 ≤ 9000000000000000 := by rw [hd]; split <;> omega
  go_enter Tryz.func66, Tryz.ntmps66
  go_wp2
  all_goals go_ret
  all_goals refine ⟨congrArg (fun z => Ending.returned (.int .i64 z)) ?_, rfl⟩
  all_goals (first | rfl | (show _ = a / 12; grind))

theorem Tryz.floorC (a : Int) (h1 : -9000000000000000 ≤ a) (h2 : a ≤ 9000000000000000) (w : World) : Calls Tryz.prog 67 #[.int .i64 a, .int .i64 12] w fun e w' => e = .returned (.int .i64 (a / 12)) ∧ w' = w := by
  have h := tmod_zero a 12
  have hd : a.tdiv 12 = if 0 ≤ a ∨ a % 12 = 0 then a / 12 else a / 12 + 1 := by
    rw [Int.tdiv_eq_ediv]
    simp only [Int.dvd_iff_emod_eq_zero]
    split <;> simp
  have hl : -9000000000000000 ≤ a.tdiv 12 ∧ a.tdiv 12 ≤ 9000000000000000 := by rw [hd]; split <;> omega
  go_enter Tryz.func67, Tryz.ntmps67
  go_wp2
  all_goals go_ret
  all_goals refine ⟨congrArg (fun z => Ending.returned (.int .i64 z)) ?_, rfl⟩
  all_goals (first | rfl | (show _ = a / 12; grind))

/-- What a call leaves of a box that it does not know. -/
theorem one_kept {w w' : World} {o : Obj} (h : Below (w.alloc o).heap.size (w.alloc o) w') : w'.heap[w.heap.size]? = some o ∧ w.heap.size < w'.heap.size ∧ Below w.heap.size w w' := by
  have h1 : (w.alloc o).heap.size = w.heap.size + 1 := by unfold World.alloc; simp
  have hs := h.size
  exact ⟨(h.block _ (by omega)).trans (heap_alloc_new w o), by omega, below_call h⟩

theorem free_zero {w' : World} {g : Nat} (h : w'.heap[g]? = some (.cells #[.int .i64 0, .int .i64 0, .string ⟨#[]⟩] 23)) :
    (w'.cell? ⟨g, 0, none⟩ = some (.int .i64 0) ∧ w'.cell? ⟨g, 1, none⟩ = some (.int .i64 0) ∧ w'.cell? ⟨g, 2, none⟩ = some (.string ⟨#[]⟩)) ∧
    (w'.frozen? ⟨g, 0, none⟩ = false ∧ w'.frozen? ⟨g, 1, none⟩ = false ∧ w'.frozen? ⟨g, 2, none⟩ = false) := by
  refine ⟨⟨?_, ?_, ?_⟩, ?_, ?_, ?_⟩ <;> simp [World.cell?, World.frozen?, h]

theorem Tryz.number (k n : Int) (w : World) : Calls Tryz.prog 54 #[.int .i64 k, .int .i64 n] w fun e w' => e = .returned (Val.plain ⟨k, n, ⟨#[]⟩⟩).v ∧ Below w.heap.size w w' := by
  go_enter Tryz.func54, Tryz.ntmps54
  go_wp2_with (go_at_call 69; refine (Tryz.plainV k n ⟨#[]⟩ (Nat.zero_le _) _).mono ?_; rintro e w' ⟨rfl, hb⟩; obtain ⟨b1, hz, hb'⟩ := one_kept hb; obtain ⟨⟨c0, c1, c2⟩, f0, f1, f2⟩ := free_zero b1; simp only [Val.v, valV])
  refine bodyPost_ret (v := (Val.plain ⟨k, n, ⟨#[]⟩⟩).v) (by simp [results, Tryz.results54, go_sem, Val.v, valV, *]) rfl ⟨rfl, ?_⟩
  refine Below.setCell (Below.setCell (Below.setCell hb' ?_ _) ?_ _) ?_ _ <;> exact Nat.le_refl _

set_option maxRecDepth 20000 in
theorem Tryz.numberR (n : Int) (w : World) : Calls Tryz.prog 58 #[.int .i64 n] w fun e w' => e = .returned (Val.plain ⟨2, n, ⟨#[]⟩⟩).v ∧ Below w.heap.size w w' := by
  go_enter Tryz.func58, Tryz.ntmps58
  go_wp2_with (go_at_call 56; refine (Tryz.plainR 2 n ⟨#[]⟩ (Nat.zero_le _) _).mono ?_; rintro e w' ⟨rfl, hb⟩; obtain ⟨b1, hz, hb'⟩ := one_kept hb; obtain ⟨⟨c0, c1, c2⟩, f0, f1, f2⟩ := free_zero b1; simp only [Val.v, valV])
  refine bodyPost_ret (v := (Val.plain ⟨2, n, ⟨#[]⟩⟩).v) (by simp [results, Tryz.results58, go_sem, Val.v, valV, *]) rfl ⟨rfl, ?_⟩
  refine Below.setCell (Below.setCell (Below.setCell hb' ?_ _) ?_ _) ?_ _ <;> exact Nat.le_refl _

set_option maxRecDepth 20000 in
theorem Tryz.momentR (n : Int) (w : World) : Calls Tryz.prog 64 #[.int .i64 n] w fun e w' => e = .returned (Val.plain ⟨4, n, ⟨#[]⟩⟩).v ∧ Below w.heap.size w w' := by
  go_enter Tryz.func64, Tryz.ntmps64
  go_wp2_with (go_at_call 56; refine (Tryz.plainR 4 n ⟨#[]⟩ (Nat.zero_le _) _).mono ?_; rintro e w' ⟨rfl, hb⟩; obtain ⟨b1, hz, hb'⟩ := one_kept hb; obtain ⟨⟨c0, c1, c2⟩, f0, f1, f2⟩ := free_zero b1; simp only [Val.v, valV])
  refine bodyPost_ret (v := (Val.plain ⟨4, n, ⟨#[]⟩⟩).v) (by simp [results, Tryz.results64, go_sem, Val.v, valV, *]) rfl ⟨rfl, ?_⟩
  refine Below.setCell (Below.setCell (Below.setCell hb' ?_ _) ?_ _) ?_ _ <;> exact Nat.le_refl _

theorem field0 (a b c : Value) (W : World) : (Instr.field 23 (.agg #[a, b, c]) 0).run Tryz.prog W = .ok a W := by
  simp [Instr.field, go_sem, asAgg, Tryz.isAgg3, Tryz.sizeOf3]

set_option maxRecDepth 20000 in
theorem Tryz.momentA (x : Val) (hs : x.s.size ≤ 9223372036854775807) (w : World) : Calls Tryz.prog 53 #[x.v] w fun e w' => e = .returned (.bool (x.plain.k == 4)) ∧ Below w.heap.size w w' := by
  unfold Val.v valV
  have hf := field0
  go_enter Tryz.func53, Tryz.ntmps53
  go_wp2_with (go_at_call 69; refine (Tryz.plainV x.k x.n x.s hs _).mono ?_; rintro e w' ⟨rfl, hb⟩; simp only [Val.v, valV])
  go_ret
  exact ⟨rfl, below_call hb⟩

end Go.Proofs
