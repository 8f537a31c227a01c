/- Of the document's package: moments some months later. No condition. -/
import Derived.Test.YtkpligcifakmjaaGreatDoorMon
namespace Go.Proofs
open Go.RowKit

theorem dateT_false {y m d h mi s : Int} (hy : inB y 1970 9999 = false) : dateT y m d h mi s = Val.zero := by
  unfold dateT
  rw [hy]
  rfl

theorem monthsT_of {x n : Val} (hm : x.plain.k = 4) (hi : n.plain.k = 2) :
    monthsT x n = dateT ((dY x.plain.n * 12 + ((dM x.plain.n : Int) + 1) - 1 + n.plain.n) / 12) ((dY x.plain.n * 12 + ((dM x.plain.n : Int) + 1) - 1 + n.plain.n) - 12 * ((dY x.plain.n * 12 + ((dM x.plain.n : Int) + 1) - 1 + n.plain.n) / 12) + 1)
      (min (dD x.plain.n) (mdays ((dY x.plain.n * 12 + ((dM x.plain.n : Int) + 1) - 1 + n.plain.n) / 12) ((dY x.plain.n * 12 + ((dM x.plain.n : Int) + 1) - 1 + n.plain.n) - 12 * ((dY x.plain.n * 12 + ((dM x.plain.n : Int) + 1) - 1 + n.plain.n) / 12) + 1)))
      (hourP x.plain.n) (minP x.plain.n) (secP x.plain.n) := by
  rw [show (dY x.plain.n * 12 + ((dM x.plain.n : Int) + 1) - 1 + n.plain.n) = (dY x.plain.n * 12 + (dM x.plain.n : Int) + n.plain.n) by omega]
  unfold monthsT
  rw [hm, hi]
  rfl

set_option maxRecDepth 20000 in
set_option maxHeartbeats 2000000 in
theorem Tryz.monthsC (x n : Val) (hs : x.s.size ≤ 9223372036854775807) (hns : n.s.size ≤ 9223372036854775807) (w : World) : Calls Tryz.prog 22 #[x.v, n.v] w fun e w' => e = .returned (monthsT x n).v ∧ Below w.heap.size w w' := by
  have hT : ThreeIn w (((w.alloc (.cells #[.int .i64 x.k, .int .i64 x.n, .string x.s] 23)).alloc (.cells #[.int .i64 n.k, .int .i64 n.n, .string n.s] 23)).alloc (.cells #[.int .i64 0, .int .i64 0, .string ⟨#[]⟩] 23)) x n Val.zero := ThreeIn.start w x n Val.zero
  show Calls Tryz.prog 22 #[.agg #[.int .i64 x.k, .int .i64 x.n, .string x.s], .agg #[.int .i64 n.k, .int .i64 n.n, .string n.s]] w _
  go_enter Tryz.func22, Tryz.ntmps22
  go_upto_region 1 with fail
  generalize ((w.alloc (.cells #[.int .i64 x.k, .int .i64 x.n, .string x.s] 23)).alloc (.cells #[.int .i64 n.k, .int .i64 n.n, .string n.s] 23)).alloc (.cells #[.int .i64 0, .int .i64 0, .string ⟨#[]⟩] 23) = W at hT ⊢
  go_cut [] from 9 to 12 (fun wx => ThreeIn w wx x.plain n.plain Val.zero)
  case first =>
    have hT := hT.drew
    obtain ⟨⟨c0, c1, c2⟩, ⟨d0, d1, d2⟩, ⟨f0, f1, f2⟩, g0, g1, g2⟩ := hT.1.cells; obtain ⟨⟨z0, z1, z2⟩, y0, y1, y2⟩ := hT.third
    go_region_with (first
      | (go_at_call_of 56 (Value.agg #[.int .i64 x.k, .int .i64 x.n, .string x.s]); refine (Tryz.plainR x.k x.n x.s hs _).mono ?_; rintro e w2 ⟨rfl, hb2⟩; simp only [Val.v, valV]; have hT2 := ThreeIn.next (a := x) (b := n) (c := Val.zero) (by assumption) hb2; obtain ⟨⟨c0, c1, c2⟩, ⟨d0, d1, d2⟩, ⟨f0, f1, f2⟩, g0, g1, g2⟩ := hT2.1.cells; obtain ⟨⟨z0, z1, z2⟩, y0, y1, y2⟩ := hT2.third)
      | (go_at_call_of 56 (Value.agg #[.int .i64 n.k, .int .i64 n.n, .string n.s]); refine (Tryz.plainR n.k n.n n.s hns _).mono ?_; rintro e w2 ⟨rfl, hb2⟩; simp only [Val.v, valV]; have hT2 := ThreeIn.next (a := x) (b := n) (c := Val.zero) (by assumption) hb2; obtain ⟨⟨c0, c1, c2⟩, ⟨d0, d1, d2⟩, ⟨f0, f1, f2⟩, g0, g1, g2⟩ := hT2.1.cells; obtain ⟨⟨z0, z1, z2⟩, y0, y1, y2⟩ := hT2.third))
    all_goals (go_wp2_with fail; go_meet)
    all_goals exact ThreeIn.stored x.plain n.plain (a := x) (b := n) (c := Val.zero) (by assumption)
  case rest =>
    obtain ⟨⟨c0, c1, c2⟩, ⟨d0, d1, d2⟩, ⟨f0, f1, f2⟩, g0, g1, g2⟩ := hcut.1.cells; obtain ⟨⟨z0, z1, z2⟩, y0, y1, y2⟩ := hcut.third
    by_cases hm : x.plain.k = 4
    · by_cases hi : n.plain.k = 2
      · have hn1 : 0 ≤ x.plain.n := by rw [(moment_fine x hm).1]; exact (moment_fine x hm).2.1
        have hn2 : x.plain.n ≤ 253402300799 := by rw [(moment_fine x hm).1]; exact (moment_fine x hm).2.2
        have hi1 : -999999999999999 ≤ n.plain.n := by rw [(int_fine n hi).1]; exact (int_fine n hi).2.1
        have hi2 : n.plain.n ≤ 999999999999999 := by rw [(int_fine n hi).1]; exact (int_fine n hi).2.2
        have hspec := Lib.hid (monthsT_of hm hi)
        obtain ⟨b1, b2, b3, b4, b5⟩ := dY_bounds hn1 hn2
        go_upto_region 9 with (first
          | (go_at_call 59; refine (Tryz.partsC x.plain.n hn1 hn2 _).mono ?_; rintro e w3 ⟨rfl, hb3⟩; have hT3 := ThreeIn.next (a := x.plain) (b := n.plain) (c := Val.zero) hcut hb3; have hTA := ThreeIn.next (a := x.plain) (b := n.plain) (c := Val.zero) hT3 ((Below.refl _ _).alloc (Nat.le_refl _) (.cells #[.int .i64 (secP x.plain.n), .int .i64 (minP x.plain.n), .int .i64 (hourP x.plain.n), .int .i64 (dD x.plain.n), .int .i64 (dM x.plain.n + 1), .int .i64 (dY x.plain.n)] 81)); obtain ⟨⟨c0, c1, c2⟩, ⟨d0, d1, d2⟩, ⟨f0, f1, f2⟩, g0, g1, g2⟩ := hTA.1.cells; obtain ⟨⟨z0, z1, z2⟩, y0, y1, y2⟩ := hTA.third)
          | (go_at_call 67; refine (Tryz.floorC _ (by omega) (by omega) _).mono ?_; rintro e w4 ⟨rfl, rfl⟩)
          | (go_at_call 57; refine (Tryz.within2 _ _ _ _).mono ?_; rintro e w9 ⟨rfl, rfl⟩))
        · have hin : (!inB ((dY x.plain.n * 12 + ((dM x.plain.n : Int) + 1) - 1 + n.plain.n) / 12) 1970 9999) = true := by assumption
          have hfalse : inB ((dY x.plain.n * 12 + ((dM x.plain.n : Int) + 1) - 1 + n.plain.n) / 12) 1970 9999 = false := by simpa using hin
          refine bodyPost_ret (v := valV 0 0 ⟨#[]⟩) (by simp [results, Tryz.results22, go_sem, valV, z0, z1, z2]) rfl ⟨by rw [hspec.out, dateT_false hfalse]; rfl, ?_⟩
          refine Below.setCell (Below.setCell (Below.setCell hTA.1.2.2.1 ?_ _) ?_ _) ?_ _ <;> exact Nat.le_add_right w.heap.size 2
        · have hA := heap_alloc_new w3 (.cells #[.int .i64 (secP x.plain.n), .int .i64 (minP x.plain.n), .int .i64 (hourP x.plain.n), .int .i64 (dD x.plain.n), .int .i64 (dM x.plain.n + 1), .int .i64 (dY x.plain.n)] 81)
          clear c0 c1 c2 d0 d1 d2 f0 f1 f2 g0 g1 g2 z0 z1 z2 y0 y1 y2 hb3 hT3
          generalize w3.heap.size = g at hA ⊢
          generalize w3.alloc (.cells #[.int .i64 (secP x.plain.n), .int .i64 (minP x.plain.n), .int .i64 (hourP x.plain.n), .int .i64 (dD x.plain.n), .int .i64 (dM x.plain.n + 1), .int .i64 (dY x.plain.n)] 81) = W at hA hTA ⊢
          have a0 : W.drew.cell? ⟨g, 0, none⟩ = some (.int .i64 (secP x.plain.n)) := cell_block hA
          have a1 : W.drew.cell? ⟨g, 1, none⟩ = some (.int .i64 (minP x.plain.n)) := cell_block hA
          have a2 : W.drew.cell? ⟨g, 2, none⟩ = some (.int .i64 (hourP x.plain.n)) := cell_block hA
          have a3 : W.drew.cell? ⟨g, 3, none⟩ = some (.int .i64 (dD x.plain.n)) := cell_block hA
          refine wp_region_still_tail 14 tryz_mixed (by kernel_rfl) ?_
          change wpStill _ _ W.drew _ _ _
          simp only [List.take_succ_cons, List.take_zero, List.drop_succ_cons, List.drop_zero]
          still_step
          still_step
          still_step
          still_step
          still_step
          still_step
          still_call (Tryz.monthDaysC _ _ _)
          still_step
          still_step
          still_step
          still_step
          still_step
          still_step
          still_step
          refine wpStill_nil ?_
          change wpList _ _ _ _ _ _
          go_wp2_with (first
            | (go_at_call 20; refine (Tryz.dateC _ _ _ _ _ _ _).mono ?_; rintro e w5 ⟨rfl, hb5⟩; have hT5 := ThreeIn.next (a := x.plain) (b := n.plain) (c := Val.zero) hTA.drew hb5; obtain ⟨⟨c0, c1, c2⟩, ⟨d0, d1, d2⟩, ⟨f0, f1, f2⟩, g0, g1, g2⟩ := hT5.1.cells; obtain ⟨⟨z0, z1, z2⟩, y0, y1, y2⟩ := hT5.third; simp only [Val.v, valV]))
          refine bodyPost_ret (v := (dateT ((dY x.plain.n * 12 + ((dM x.plain.n : Int) + 1) - 1 + n.plain.n) / 12) ((dY x.plain.n * 12 + ((dM x.plain.n : Int) + 1) - 1 + n.plain.n) - 12 * ((dY x.plain.n * 12 + ((dM x.plain.n : Int) + 1) - 1 + n.plain.n) / 12) + 1) (min (dD x.plain.n) (mdays ((dY x.plain.n * 12 + ((dM x.plain.n : Int) + 1) - 1 + n.plain.n) / 12) ((dY x.plain.n * 12 + ((dM x.plain.n : Int) + 1) - 1 + n.plain.n) - 12 * ((dY x.plain.n * 12 + ((dM x.plain.n : Int) + 1) - 1 + n.plain.n) / 12) + 1))) (hourP x.plain.n) (minP x.plain.n) (secP x.plain.n)).v) (by simp [results, Tryz.results22, go_sem, Val.v, valV, z0, z1, z2]) rfl ⟨congrArg (fun y => Ending.returned (Val.v y)) hspec.out.symm, ?_⟩
          refine Below.setCell (Below.setCell (Below.setCell hT5.1.2.2.1 ?_ _) ?_ _) ?_ _ <;> exact Nat.le_add_right w.heap.size 2
      · have hspec : monthsT x n = Val.zero := by unfold monthsT; simp [hi]
        have hib : (n.plain.k != 2) = true := by simpa using hi
        go_wp2_with fail
        refine bodyPost_ret (v := valV 0 0 ⟨#[]⟩) (by simp [results, Tryz.results22, go_sem, valV, z0, z1, z2]) rfl ⟨by rw [hspec]; rfl, ?_⟩
        refine Below.setCell (Below.setCell (Below.setCell hcut.1.2.2.1 ?_ _) ?_ _) ?_ _ <;> exact Nat.le_add_right w.heap.size 2
    · have hspec : monthsT x n = Val.zero := by unfold monthsT; simp [hm]
      have hmb : (x.plain.k != 4) = true := by simpa using hm
      go_wp2_with fail
      refine bodyPost_ret (v := valV 0 0 ⟨#[]⟩) (by simp [results, Tryz.results22, go_sem, valV, z0, z1, z2]) rfl ⟨by rw [hspec]; rfl, ?_⟩
      refine Below.setCell (Below.setCell (Below.setCell hcut.1.2.2.1 ?_ _) ?_ _) ?_ _ <;> exact Nat.le_add_right w.heap.size 2

end Go.Proofs
