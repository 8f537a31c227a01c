/- Of the document's package: beginnings of units of moments. No condition. -/
import Derived.Test.YtkpligcifakmjaaGreatDoorDate4
namespace Go.Proofs
open Go.RowKit

set_option maxRecDepth 20000 in
set_option maxHeartbeats 2000000 in
theorem Tryz.truncC (x : Val) (hs : x.s.size ≤ 9223372036854775807) (u : Int) (w : World) : Calls Tryz.prog 18 #[x.v, .int .i64 u] w fun e w' => e = .returned (truncT x u).v ∧ Below w.heap.size w w' := by
  have hT := TwoIn.start w x Val.zero
  have i0 := fun (a0 a1 a2 a3 a4 a5 : Value) (W : World) => (index6 a0 a1 a2 a3 a4 a5 W).1
  have i1 := fun (a0 a1 a2 a3 a4 a5 : Value) (W : World) => (index6 a0 a1 a2 a3 a4 a5 W).2.1
  have i2 := fun (a0 a1 a2 a3 a4 a5 : Value) (W : World) => (index6 a0 a1 a2 a3 a4 a5 W).2.2.1
  have i3 := fun (a0 a1 a2 a3 a4 a5 : Value) (W : World) => (index6 a0 a1 a2 a3 a4 a5 W).2.2.2.1
  have i4 := fun (a0 a1 a2 a3 a4 a5 : Value) (W : World) => (index6 a0 a1 a2 a3 a4 a5 W).2.2.2.2.1
  have i5 := fun (a0 a1 a2 a3 a4 a5 : Value) (W : World) => (index6 a0 a1 a2 a3 a4 a5 W).2.2.2.2.2
  show Calls Tryz.prog 18 #[.agg #[.int .i64 x.k, .int .i64 x.n, .string x.s], .int .i64 u] w _
  go_enter Tryz.func18, Tryz.ntmps18
  go_upto_region 2 with (first
    | (go_at_call 56; refine (Tryz.plainRV x hs _).mono ?_; rintro e w1 ⟨rfl, hb1⟩; have hT1 := TwoIn.next (a := x) (b := Val.zero) hT hb1; obtain ⟨⟨c0, c1, c2⟩, ⟨d0, d1, d2⟩, ⟨f0, f1, f2⟩, g0, g1, g2⟩ := hT1.cells; simp only [Val.v, valV]))
  have hT2 := TwoIn.fst x.plain hT1
  clear c0 c1 c2 d0 d1 d2 f0 f1 f2 g0 g1 g2
  generalize ((w1.setCell ⟨w.heap.size, 0, none⟩ (.int .i64 x.plain.k)).setCell ⟨w.heap.size, 1, none⟩ (.int .i64 x.plain.n)).setCell ⟨w.heap.size, 2, none⟩ (.string x.plain.s) = W at hT2 ⊢
  clear hT1 hb1 hT
  obtain ⟨⟨c0, c1, c2⟩, ⟨d0, d1, d2⟩, ⟨f0, f1, f2⟩, g0, g1, g2⟩ := hT2.cells
  by_cases hm : x.plain.k = 4
  · have hn1 : 0 ≤ x.plain.n := by rw [(moment_fine x hm).1]; exact (moment_fine x hm).2.1
    have hn2 : x.plain.n ≤ 253402300799 := by rw [(moment_fine x hm).1]; exact (moment_fine x hm).2.2
    by_cases hu : inB u 1 6 = true
    · obtain ⟨u1, u2⟩ := inB_true hu
      rcases (show u = 1 ∨ u = 2 ∨ u = 3 ∨ u = 4 ∨ u = 5 ∨ u = 6 by omega) with rfl | rfl | rfl | rfl | rfl | rfl
      all_goals
        go_wp2_with (first
          | (go_at_call 57; refine (Tryz.within2 _ _ _ _).mono ?_; rintro e w9 ⟨rfl, rfl⟩)
          | (go_at_call 59; refine (Tryz.partsC x.plain.n hn1 hn2 _).mono ?_; rintro e w2 ⟨rfl, hb2⟩; have hT3 := TwoIn.next (a := x.plain) (b := Val.zero) hT2 hb2; obtain ⟨⟨c0, c1, c2⟩, ⟨d0, d1, d2⟩, ⟨f0, f1, f2⟩, g0, g1, g2⟩ := hT3.cells))
        refine wp_loop_rounds 6 ?_
        iterate 6 (try (rw [rounds_succ]; go_wp2_with (first | (go_at_call 20; refine (Tryz.dateC _ _ _ _ _ _ _).mono ?_; rintro e w3 ⟨rfl, hb3⟩; have hT4 := TwoIn.next (a := x.plain) (b := Val.zero) hT3 (below_call hb3); obtain ⟨⟨c0, c1, c2⟩, ⟨d0, d1, d2⟩, ⟨f0, f1, f2⟩, g0, g1, g2⟩ := hT4.cells; simp only [Val.v, valV]))))
      all_goals
        refine bodyPost_ret (v := (truncT x _).v) (by simp [results, Tryz.results18, go_sem, Val.v, valV, truncT, inB, hm, d0, d1, d2]) rfl ⟨rfl, ?_⟩
        refine Below.setCell (Below.setCell (Below.setCell hT4.2.2.1 ?_ _) ?_ _) ?_ _ <;> exact Nat.le_succ _
    · have hspec : truncT x u = Val.zero := by unfold truncT; simp [hu]
      have hub : inB u 1 6 = false := by simpa using hu
      go_wp2_with (first
        | (go_at_call 57; refine (Tryz.within2 _ _ _ _).mono ?_; rintro e w9 ⟨rfl, rfl⟩))
      refine bodyPost_ret (v := valV 0 0 ⟨#[]⟩) (by simp [results, Tryz.results18, go_sem, valV, d0, d1, d2]) rfl ⟨by rw [hspec]; rfl, ?_⟩
      refine Below.setCell (Below.setCell (Below.setCell hT2.2.2.1 ?_ _) ?_ _) ?_ _ <;> exact Nat.le_succ _
  · have hspec : truncT x u = Val.zero := by unfold truncT; simp [hm]
    have hmb : (x.plain.k != 4) = true := by simpa using hm
    go_wp2_with fail
    refine bodyPost_ret (v := valV 0 0 ⟨#[]⟩) (by simp [results, Tryz.results18, go_sem, valV, d0, d1, d2]) rfl ⟨by rw [hspec]; rfl, ?_⟩
    refine Below.setCell (Below.setCell (Below.setCell hT2.2.2.1 ?_ _) ?_ _) ?_ _ <;> exact Nat.le_succ _
end Go.Proofs
