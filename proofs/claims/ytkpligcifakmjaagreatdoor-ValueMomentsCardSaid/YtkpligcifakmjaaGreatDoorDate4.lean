/- Of package value and of the document's package: units of moments. No condition. -/
import Derived.Test.YtkpligcifakmjaaGreatDoorDate3
namespace Go.Proofs
open Go.RowKit

theorem moment_fine (x : Val) (h : x.plain.k = 4) : x.plain = x ∧ 0 ≤ x.n ∧ x.n ≤ 253402300799 := by
  unfold Val.plain at h ⊢
  cases hf : x.fine with
  | false => rw [hf] at h; simp [Val.zero] at h
  | true =>
    rw [hf] at h
    refine ⟨rfl, ?_⟩
    have h4 : x.k = 4 := h
    unfold Val.fine rangeB at hf
    rw [h4] at hf
    simp only [Bool.and_eq_true] at hf
    exact inB_true hf.2

theorem Tryz.plainRV (x : Val) (hs : x.s.size ≤ 9223372036854775807) (w : World) : Calls Tryz.prog 56 #[x.v] w fun e w' => e = .returned x.plain.v ∧ Below w.heap.size w w' := Tryz.plainR x.k x.n x.s hs w

theorem Tryz.plainAV (x : Val) (hs : x.s.size ≤ 9223372036854775807) (w : World) : Calls Tryz.prog 69 #[x.v] w fun e w' => e = .returned x.plain.v ∧ Below w.heap.size w w' := Tryz.plainV x.k x.n x.s hs w

theorem TwoIn.fst {w W : World} {a b : Val} (x : Val) (h : TwoIn w W a b) :
    TwoIn w (((W.setCell ⟨w.heap.size, 0, none⟩ (.int .i64 x.k)).setCell ⟨w.heap.size, 1, none⟩ (.int .i64 x.n)).setCell ⟨w.heap.size, 2, none⟩ (.string x.s)) x b := by
  obtain ⟨h1, h2, h3, h4⟩ := h
  refine ⟨?_, ?_, ?_, by simp only [size_set]; exact h4⟩
  · rw [block_set (block_set (block_set h1))]
    rfl
  · rw [block_set_ne (by omega), block_set_ne (by omega), block_set_ne (by omega), h2]
  · refine Below.setCell (Below.setCell (Below.setCell h3 ?_ _) ?_ _) ?_ _ <;> exact Nat.le_refl _

theorem index6 (a0 a1 a2 a3 a4 a5 : Value) (W : World) :
    (Instr.index 81 (.agg #[a0, a1, a2, a3, a4, a5]) (.int .i64 0)).run Tryz.prog W = .ok a0 W ∧ (Instr.index 81 (.agg #[a0, a1, a2, a3, a4, a5]) (.int .i64 1)).run Tryz.prog W = .ok a1 W ∧
    (Instr.index 81 (.agg #[a0, a1, a2, a3, a4, a5]) (.int .i64 2)).run Tryz.prog W = .ok a2 W ∧ (Instr.index 81 (.agg #[a0, a1, a2, a3, a4, a5]) (.int .i64 3)).run Tryz.prog W = .ok a3 W ∧
    (Instr.index 81 (.agg #[a0, a1, a2, a3, a4, a5]) (.int .i64 4)).run Tryz.prog W = .ok a4 W ∧ (Instr.index 81 (.agg #[a0, a1, a2, a3, a4, a5]) (.int .i64 5)).run Tryz.prog W = .ok a5 W := by
  refine ⟨?_, ?_, ?_, ?_, ?_, ?_⟩ <;> simp [Instr.index, go_sem, asIntOf, part, Tryz.isAgg3, Tryz.sizeOf3]

noncomputable def partT (n u : Int) : Int := if u = 1 then secP n else if u = 2 then minP n else if u = 3 then hourP n else if u = 4 then dD n else if u = 5 then dM n + 1 else dY n

noncomputable def unitT (x : Val) (u : Int) : Val := if (x.plain.k == 4) && inB u 1 6 then Val.plain ⟨2, partT x.plain.n u, ⟨#[]⟩⟩ else Val.zero

noncomputable def truncT (x : Val) (u : Int) : Val := if (x.plain.k == 4) && inB u 1 6 then
    dateT (dY x.plain.n) (if 6 ≤ u then 1 else dM x.plain.n + 1) (if 5 ≤ u then 1 else dD x.plain.n) (if 4 ≤ u then 0 else hourP x.plain.n) (if 3 ≤ u then 0 else minP x.plain.n) (if 2 ≤ u then 0 else secP x.plain.n)
  else Val.zero


set_option maxRecDepth 20000 in
set_option maxHeartbeats 2000000 in
theorem Tryz.unitA (x : Val) (hs : x.s.size ≤ 9223372036854775807) (u : Int) (w : World) : Calls Tryz.prog 15 #[x.v, .int .i64 u] w fun e w' => e = .returned (unitT x u).v ∧ Below w.heap.size w w' := by
  have hT := TwoIn.start w x Val.zero
  have i0 := fun (a0 a1 a2 a3 a4 a5 : Value) (W : World) => (index6 a0 a1 a2 a3 a4 a5 W).1
  have i1 := fun (a0 a1 a2 a3 a4 a5 : Value) (W : World) => (index6 a0 a1 a2 a3 a4 a5 W).2.1
  have i2 := fun (a0 a1 a2 a3 a4 a5 : Value) (W : World) => (index6 a0 a1 a2 a3 a4 a5 W).2.2.1
  have i3 := fun (a0 a1 a2 a3 a4 a5 : Value) (W : World) => (index6 a0 a1 a2 a3 a4 a5 W).2.2.2.1
  have i4 := fun (a0 a1 a2 a3 a4 a5 : Value) (W : World) => (index6 a0 a1 a2 a3 a4 a5 W).2.2.2.2.1
  have i5 := fun (a0 a1 a2 a3 a4 a5 : Value) (W : World) => (index6 a0 a1 a2 a3 a4 a5 W).2.2.2.2.2
  show Calls Tryz.prog 15 #[.agg #[.int .i64 x.k, .int .i64 x.n, .string x.s], .int .i64 u] w _
  by_cases hm : x.plain.k = 4
  · have hn1 := (moment_fine x hm).2.1
    have hn2 := (moment_fine x hm).2.2
    by_cases hu : inB u 1 6 = true
    · have hspec : unitT x u = Val.plain ⟨2, partT x.plain.n u, ⟨#[]⟩⟩ := by unfold unitT; simp [hm, hu]
      rw [hspec]
      obtain ⟨u1, u2⟩ := inB_true hu
      rcases (show u = 1 ∨ u = 2 ∨ u = 3 ∨ u = 4 ∨ u = 5 ∨ u = 6 by omega) with rfl | rfl | rfl | rfl | rfl | rfl
      all_goals
        go_enter Tryz.func15, Tryz.ntmps15
        go_wp2_with (first
          | (go_at_call 53; refine (Tryz.momentA x hs _).mono ?_; rintro e w1 ⟨rfl, hb1⟩; have hT1 := TwoIn.next (a := x) (b := Val.zero) hT hb1; obtain ⟨⟨c0, c1, c2⟩, ⟨d0, d1, d2⟩, ⟨f0, f1, f2⟩, g0, g1, g2⟩ := hT1.cells)
          | (go_at_call 48; refine (Tryz.within _ _ _ _).mono ?_; rintro e w9 ⟨rfl, rfl⟩)
          | (go_at_call 55; refine (Tryz.dateOf x.n hn1 hn2 _).mono ?_; rintro e w2 ⟨rfl, hb2⟩; have hT2 := TwoIn.next (a := x) (b := Val.zero) hT1 hb2; obtain ⟨⟨c0, c1, c2⟩, ⟨d0, d1, d2⟩, ⟨f0, f1, f2⟩, g0, g1, g2⟩ := hT2.cells)
          | (go_at_call 54; refine (Tryz.number 2 _ _).mono ?_; rintro e w3 ⟨rfl, hb3⟩; have hT3 := TwoIn.next (a := x) (b := Val.zero) hT2 hb3; obtain ⟨⟨c0, c1, c2⟩, ⟨d0, d1, d2⟩, ⟨f0, f1, f2⟩, g0, g1, g2⟩ := hT3.cells; simp only [Val.v, valV]))
      all_goals
        refine bodyPost_ret (v := (Val.plain ⟨2, partT x.plain.n _, ⟨#[]⟩⟩).v) (by simp [results, Tryz.results15, go_sem, Val.v, valV, partT, (moment_fine x hm).1, d0, d1, d2]) rfl ⟨rfl, ?_⟩
        refine Below.setCell (Below.setCell (Below.setCell hT3.2.2.1 ?_ _) ?_ _) ?_ _ <;> exact Nat.le_succ _
    · have hspec : unitT x u = Val.zero := by unfold unitT; simp [hu]
      have hub : inB u 1 6 = false := by simpa using hu
      rw [hspec]
      go_enter Tryz.func15, Tryz.ntmps15
      go_wp2_with (first
        | (go_at_call 53; refine (Tryz.momentA x hs _).mono ?_; rintro e w1 ⟨rfl, hb1⟩; have hT1 := TwoIn.next (a := x) (b := Val.zero) hT hb1; obtain ⟨⟨c0, c1, c2⟩, ⟨d0, d1, d2⟩, ⟨f0, f1, f2⟩, g0, g1, g2⟩ := hT1.cells)
        | (go_at_call 48; refine (Tryz.within _ _ _ _).mono ?_; rintro e w9 ⟨rfl, rfl⟩))
      refine bodyPost_ret (v := valV 0 0 ⟨#[]⟩) (by simp [results, Tryz.results15, go_sem, valV, d0, d1, d2]) rfl ⟨rfl, ?_⟩
      refine Below.setCell (Below.setCell (Below.setCell hT1.2.2.1 ?_ _) ?_ _) ?_ _ <;> exact Nat.le_succ _
  · have hspec : unitT x u = Val.zero := by unfold unitT; simp [hm]
    have hmb : (x.plain.k == 4) = false := by simpa using hm
    rw [hspec]
    go_enter Tryz.func15, Tryz.ntmps15
    go_wp2_with (first
      | (go_at_call 53; refine (Tryz.momentA x hs _).mono ?_; rintro e w1 ⟨rfl, hb1⟩; have hT1 := TwoIn.next (a := x) (b := Val.zero) hT hb1; obtain ⟨⟨c0, c1, c2⟩, ⟨d0, d1, d2⟩, ⟨f0, f1, f2⟩, g0, g1, g2⟩ := hT1.cells))
    refine bodyPost_ret (v := valV 0 0 ⟨#[]⟩) (by simp [results, Tryz.results15, go_sem, valV, d0, d1, d2]) rfl ⟨rfl, ?_⟩
    refine Below.setCell (Below.setCell (Below.setCell hT1.2.2.1 ?_ _) ?_ _) ?_ _ <;> exact Nat.le_succ _

end Go.Proofs
