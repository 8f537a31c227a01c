/- ValueMoments: value.Date, Unit, Trunc and Months are as specified for all numbers and values. No condition but that the listed variables of Go's library lie as they are laid. -/
import Derived.Test.YtkpligcifakmjaaGreatDoorVmA
namespace Go.Proofs
open Go.RowKit

set_option maxRecDepth 20000 in
set_option maxHeartbeats 1000000 in
theorem Tryz.momentsLaw (zs : List Int) (ad : Option Addr) (cap : Nat) (x n : Val) (hs : x.s.size ≤ 9223372036854775807) (hns : n.s.size ≤ 9223372036854775807) (w : World) (hz : IntsAt w w.heap.size ad zs) (hl : zs.length ≤ 9223372036854775807) (htab : Lib.TabIs Tryz.prog w "strings.asciiSpace" .u8 Lib.asciiSpaceTab) :
    Calls Tryz.prog 4 #[.slice ad zs.length cap, x.v, n.v] w fun e w' => e = .returned (.bool true) ∧ Below w.heap.size w w' := by
  have hL := LawAt.start w x n ad zs.length cap
  show Calls Tryz.prog 4 #[.slice ad zs.length cap, .agg #[.int .i64 x.k, .int .i64 x.n, .string x.s], .agg #[.int .i64 n.k, .int .i64 n.n, .string n.s]] w _
  go_enter Tryz.func4, Tryz.ntmps4
  go_wp2_with fail
  refine (LawAt.range hL hz hl (by omega) _ _ (by omega) (by omega) (by omega)).mono ?_; rintro e W ⟨⟨r, rfl⟩, hN⟩; clear hL; have hL := hN; clear hN
  go_wp2_with fail
  refine (LawAt.int hL hz hl (by omega)).mono ?_; rintro e W ⟨⟨r, rfl⟩, hN⟩; clear hL; have hL := hN; clear hN
  go_wp2_with fail
  refine (LawAt.pick hL hz hl (by omega) _ 9 rfl (by omega) (by simp)).mono ?_; rintro e W ⟨⟨r, rfl⟩, hN⟩; clear hL; have hL := hN; clear hN
  go_wp2_with fail
  refine (LawAt.int hL hz hl (by omega)).mono ?_; rintro e W ⟨⟨r, rfl⟩, hN⟩; clear hL; have hL := hN; clear hN
  go_wp2_with fail
  refine (LawAt.pick hL hz hl (by omega) _ 7 rfl (by omega) (by simp)).mono ?_; rintro e W ⟨⟨r, rfl⟩, hN⟩; clear hL; have hL := hN; clear hN
  go_wp2_with fail
  refine (LawAt.pick hL hz hl (by omega) _ 7 rfl (by omega) (by simp)).mono ?_; rintro e W ⟨⟨r, rfl⟩, hN⟩; clear hL; have hL := hN; clear hN
  go_wp2_with fail
  refine (LawAt.pick hL hz hl (by omega) _ 4 rfl (by omega) (by simp)).mono ?_; rintro e W ⟨⟨r, rfl⟩, hN⟩; clear hL; have hL := hN; clear hN
  go_wp2_with fail
  refine (LawAt.pick hL hz hl (by omega) _ 4 rfl (by omega) (by simp)).mono ?_; rintro e W ⟨⟨r, rfl⟩, hN⟩; clear hL; have hL := hN; clear hN
  go_wp2_with fail
  refine (LawAt.pick hL hz hl (by omega) _ 3 rfl (by omega) (by simp)).mono ?_; rintro e W ⟨⟨r, rfl⟩, hN⟩; clear hL; have hL := hN; clear hN
  go_wp2_with fail
  have hL11 : LawAt w x n ad zs.length cap 11 W := hL
  clear hL
  have q1 := guard23
  have q2 := neq23
  have q3 := eql23
  go_loopw [14] (fun u wr => ∃ z : Int, u = .int .i64 z ∧ -1 ≤ z ∧ z ≤ 9 ∧ LawAt w x n ad zs.length cap 11 wr) (fun u _ => (9 - intOf u).toNat)
  case atStart => exact ⟨-1, rfl, by omega, by omega, hL11⟩
  case round =>
    obtain ⟨z, rfl, hz1, hz2, hR⟩ := hrel
    obtain ⟨⟨c0, c1, c2⟩, ⟨d0, d1, d2⟩, _, _⟩ := hR.1.cells
    have hwr : w.heap.size < wr.heap.size := by have := hR.2.2; omega
    by_cases hlt : z < 9
    · go_wp2_with fail
      go_region_held3 (fun w' => w'.cell? ⟨w.heap.size, 0, none⟩ = some (.int .i64 x.k) ∧ w'.cell? ⟨w.heap.size, 1, none⟩ = some (.int .i64 x.n) ∧ w'.cell? ⟨w.heap.size, 2, none⟩ = some (.string x.s) ∧ Below wr.heap.size wr w' ∧ wr.heap.size ≤ w'.heap.size)
        (first | exact ⟨c0, c1, c2, (Below.refl _ _).drew, Nat.le_refl _⟩ | exact one_call hwr (by assumption) (by assumption))
        (first
        | (go_at_call 15; refine (Tryz.unitA x hs z _).mono ?_; rintro e w2 ⟨rfl, hb2⟩)
        | (go_at_call 16; refine (Tryz.unitC x hs z _).mono ?_; rintro e w3 ⟨rfl, hb3⟩)
        | (go_at_call 17; refine (Tryz.truncA x hs z _).mono ?_; rintro e w4 ⟨rfl, hb4⟩)
        | (go_at_call 18; refine (Tryz.truncC x hs z _).mono ?_; rintro e w5 ⟨rfl, hb5⟩))
      rename_i hheld
      have hk : Below wr.heap.size wr w5 := hheld.2.2.2.1
      clear hheld
      go_wp2_with fail
      go_roundw
      case rel => exact ⟨z + 1, rfl, by omega, by omega, hR.call hk⟩
      case measure => simp [intOf]; omega
    · go_wp2_with fail
      refine (LawAt.range hR hz hl (by omega) _ _ (by omega) (by omega) (by omega)).mono ?_
      rintro e W ⟨⟨r, rfl⟩, hN⟩
      clear c0 c1 c2 d0 d1 d2
      go_upto_region 10 with fail
      have hM := hN.alloc (.cells #[.int .i64 2, .int .i64 r, .string ⟨#[]⟩] 23)
      have hF := heap_alloc_new W (.cells #[.int .i64 2, .int .i64 r, .string ⟨#[]⟩] 23)
      have hg : w.heap.size + 2 < W.heap.size := hN.2.2
      have hg2 : W.heap.size < (W.alloc (.cells #[.int .i64 2, .int .i64 r, .string ⟨#[]⟩] 23)).heap.size := by rw [alloc_size]; omega
      generalize W.heap.size = g at hF hg hg2 ⊢
      generalize W.alloc (.cells #[.int .i64 2, .int .i64 r, .string ⟨#[]⟩] 23) = W1 at hM hF hg2 ⊢
      obtain ⟨⟨c0, c1, c2⟩, ⟨d0, d1, d2⟩, _, _⟩ := hM.1.cells
      have p1 : w.heap.size < W1.heap.size := by omega
      have p2 : w.heap.size + 1 < W1.heap.size := by omega
      go_region_held3 (fun w' => w'.cell? ⟨w.heap.size, 0, none⟩ = some (.int .i64 x.k) ∧ w'.cell? ⟨w.heap.size, 1, none⟩ = some (.int .i64 x.n) ∧ w'.cell? ⟨w.heap.size, 2, none⟩ = some (.string x.s) ∧
          w'.cell? ⟨w.heap.size + 1, 0, none⟩ = some (.int .i64 n.k) ∧ w'.cell? ⟨w.heap.size + 1, 1, none⟩ = some (.int .i64 n.n) ∧ w'.cell? ⟨w.heap.size + 1, 2, none⟩ = some (.string n.s) ∧
          w'.cell? ⟨g, 0, none⟩ = some (.int .i64 2) ∧ w'.cell? ⟨g, 1, none⟩ = some (.int .i64 r) ∧ w'.cell? ⟨g, 2, none⟩ = some (.string ⟨#[]⟩) ∧ Below W1.heap.size W1 w' ∧ W1.heap.size ≤ w'.heap.size)
        (first | exact ⟨c0, c1, c2, d0, d1, d2, cell_block hF, cell_block hF, cell_block hF, (Below.refl _ _).drew, Nat.le_refl _⟩ | exact three_call p1 p2 hg2 (by assumption) (by assumption))
        (first
        | (go_at_call 9; refine (Tryz.values_calls _ (Lib.tabBelow_of_tabIs htab _ hM.1.2.2.1.drew)).mono ?_; rintro e w2 ⟨rfl, hb2⟩)
        | (go_at_call 19; refine (Tryz.dateA _ _ _ _ _ _ _).mono ?_; rintro e w3 ⟨rfl, hb3⟩)
        | (go_at_call 20; refine (Tryz.dateC _ _ _ _ _ _ _).mono ?_; rintro e w4 ⟨rfl, hb4⟩)
        | (go_at_call_of 21 (Value.agg #[.int .i64 2, .int .i64 r, .string ⟨#[]⟩]); refine (Tryz.monthsA x ⟨2, r, ⟨#[]⟩⟩ hs (Nat.zero_le _) _).mono ?_; rintro e w5 ⟨rfl, hb5⟩)
        | (go_at_call_of 22 (Value.agg #[.int .i64 2, .int .i64 r, .string ⟨#[]⟩]); refine (Tryz.monthsC x ⟨2, r, ⟨#[]⟩⟩ hs (Nat.zero_le _) _).mono ?_; rintro e w6 ⟨rfl, hb6⟩)
        | (go_at_call 21; refine (Tryz.monthsA x n hs hns _).mono ?_; rintro e w7 ⟨rfl, hb7⟩)
        | (go_at_call 22; refine (Tryz.monthsC x n hs hns _).mono ?_; rintro e w8 ⟨rfl, hb8⟩))
      rename_i hheld
      have hk : Below W1.heap.size W1 w6 := hheld.2.2.2.2.2.2.2.2.2.1
      clear hheld
      go_wp2_with fail
      go_ret
      exact ⟨rfl, hM.1.2.2.1.trans (hk.mono (by omega))⟩

end Go.Proofs
