/- Of package value and of the document's package: moments some months later. No condition. -/
import Derived.Test.YtkpligcifakmjaaGreatDoorDate4
import Derived.Test.YtkpligcifakmjaaGreatDoorOrdL
import Derived.StillTailTactics
import Derived.Deep.CutRange
import Derived.Deep.RegionWith
namespace Go.Proofs
open Go.RowKit

theorem year_exists (D : Int) (h : 0 ≤ D) : ∃ y, IsYear D y := by
  have key : ∀ k : Nat, D < yday (1970 + k) → ∃ y, IsYear D y := by
    intro k
    induction k with
    | zero => intro h'; simp only [Int.natCast_zero, Int.add_zero, yday_first] at h'; omega
    | succ k ih =>
      intro h'
      by_cases hk : D < yday (1970 + k)
      · exact ih hk
      · exact ⟨1970 + k, by omega, by omega, by rw [show (1970 : Int) + k + 1 = 1970 + ((k + 1 : Nat) : Int) by omega]; exact h'⟩
  refine key (D.toNat + 1) ?_
  have := yday_up 1970 (D.toNat + 1)
  rw [yday_first] at this
  omega

theorem month_exists (y d : Int) (h : 0 ≤ d) (h2 : d < ydays y) : ∃ m, IsMonth y d m := by
  have key : ∀ k : Nat, k ≤ 12 → d < mstart y k → ∃ m, IsMonth y d m := by
    intro k
    induction k with
    | zero => intro _ h'; exact absurd h' (by show ¬ d < 0; omega)
    | succ k ih =>
      intro hk h'
      by_cases hd : d < mstart y k
      · exact ih (by omega) hd
      · exact ⟨k, by omega, by omega, h'⟩
  exact key 12 (Nat.le_refl _) (by rw [mstart_year]; exact h2)

theorem dY_bounds {n : Int} (h : 0 ≤ n) (h2 : n ≤ 253402300799) : 1970 ≤ dY n ∧ dY n ≤ 12000 ∧ dM n < 12 ∧ 1 ≤ dD n ∧ dD n ≤ 366 := by
  obtain ⟨y, hy⟩ := year_exists (n / 86400) (by omega)
  have e : y = dY n := yearOf_is hy
  subst e
  obtain ⟨h3, h4, h5⟩ := hy
  have h6 := year_low h3
  have h7 := yday_succ (dY n)
  have h8 := ydays_le (dY n)
  obtain ⟨m, hm⟩ := month_exists (dY n) (n / 86400 - yday (dY n)) (by omega) (by omega)
  have e : m = dM n := monthOf_is hm
  subst e
  obtain ⟨k1, k2, k3⟩ := hm
  have k4 : 0 ≤ mstart (dY n) (dM n) := mstart_mono (dY n) (Nat.zero_le _)
  exact ⟨h3, by omega, k1, by unfold dD; omega, by unfold dD; omega⟩

theorem int_fine (x : Val) (h : x.plain.k = 2) : x.plain = x ∧ -999999999999999 ≤ x.n ∧ x.n ≤ 999999999999999 := by
  unfold Val.plain at h ⊢
  cases hf : x.fine with
  | false => rw [hf] at h; simp [Val.zero] at h
  | true =>
    rw [hf] at h
    refine ⟨rfl, ?_⟩
    have h4 : x.k = 2 := h
    unfold Val.fine rangeB at hf
    rw [h4] at hf
    simp only [Bool.and_eq_true] at hf
    exact inB_true hf.2

theorem rowAt_new (W : World) (x : Val) (hs : x.s.size ≤ 9223372036854775807) : RowAt (W.alloc (.cells #[.int .i64 x.k, .int .i64 x.n, .string x.s] 23)) (W.alloc (.cells #[.int .i64 x.k, .int .i64 x.n, .string x.s] 23)).heap.size (some ⟨W.heap.size, 0, none⟩) [x] := by
  intro i hi
  obtain rfl : i = 0 := by simp at hi; omega
  have h := heap_alloc_new W (.cells #[.int .i64 x.k, .int .i64 x.n, .string x.s] 23)
  refine ⟨_, _, rfl, by unfold World.alloc; simp, ?_, ?_, ?_, hs⟩ <;> (unfold World.cell?; rw [h]; rfl)

def allInt (l : List Val) : Bool := l.all fun x => x.plain.k == 2

set_option maxRecDepth 20000 in
theorem Tryz.intsA (l : List Val) (ad : Option Addr) (ca : Nat) (w : World) (h : RowAt w w.heap.size ad l) (la : l.length ≤ 9223372036854775807) : Calls Tryz.prog 65 #[.slice ad l.length ca] w fun e w' => e = .returned (.bool (allInt l)) ∧ Below w.heap.size w w' := by
  have hf := field0
  go_enter Tryz.func65, Tryz.ntmps65
  go_wp2_with fail
  go_loopw [7] (fun i wr => ∃ k : Nat, i = .int .i64 k ∧ k ≤ l.length ∧ allInt (l.take k) = true ∧ Below w.heap.size w wr) (fun i _ => l.length - (intOf i).toNat)
  case atStart => exact ⟨0, rfl, Nat.zero_le _, rfl, Below.refl _ _⟩
  case round =>
    obtain ⟨k, rfl, hkl, hk, hw⟩ := hrel
    by_cases hlt : k < l.length
    · obtain ⟨p, o, rfl, hp, c0, c1, c2, sa⟩ := h.below hw k hlt
      have hw1 := hw.alloc hw.size (.cells #[.int .i64 l[k].k, .int .i64 l[k].n, .string l[k].s] 23)
      have htake : allInt (l.take (k + 1)) = (allInt (l.take k) && (l[k].plain.k == 2)) := by
        unfold allInt
        rw [List.take_succ_eq_append_getElem hlt, List.all_append]
        simp
      go_wp2_with (first
        | (go_at_call 69; refine (Tryz.plainAV l[k] sa _).mono ?_; rintro e w2 ⟨rfl, hb2⟩; simp only [Val.v, valV]))
      · have hne : (l[k].plain.k != 2) = true := by assumption
        go_ret
        refine ⟨congrArg (fun b => Ending.returned (.bool b)) ?_, hw1.trans (hb2.mono hw1.size)⟩
        show false = allInt l
        unfold allInt
        symm
        rw [List.all_eq_false]
        exact ⟨l[k], List.getElem_mem hlt, by simpa using hne⟩
      · have hne : (l[k].plain.k != 2) = false := by assumption
        go_roundw
        case rel => exact ⟨k + 1, by go_num, by omega, by rw [htake, hk]; simpa using hne, hw1.trans (hb2.mono hw1.size)⟩
        case measure => simp [intOf]; omega
    · go_wp2_with fail
      go_ret
      have : l.take k = l := List.take_of_length_le (by omega)
      exact ⟨by rw [this] at hk; rw [hk]; rfl, hw⟩

noncomputable def monthsT (x n : Val) : Val := if (x.plain.k == 4) && (n.plain.k == 2) then
    dateT ((dY x.plain.n * 12 + dM x.plain.n + n.plain.n) / 12) ((dY x.plain.n * 12 + dM x.plain.n + n.plain.n) - 12 * ((dY x.plain.n * 12 + dM x.plain.n + n.plain.n) / 12) + 1)
      (min (dD x.plain.n) (mdays ((dY x.plain.n * 12 + dM x.plain.n + n.plain.n) / 12) ((dY x.plain.n * 12 + dM x.plain.n + n.plain.n) - 12 * ((dY x.plain.n * 12 + dM x.plain.n + n.plain.n) / 12) + 1)))
      (hourP x.plain.n) (minP x.plain.n) (secP x.plain.n)
  else Val.zero

/-- Two boxes and behind them a third one. -/
def ThreeIn (w W : World) (a b c : Val) : Prop := TwoIn w W a b ∧ W.heap[w.heap.size + 2]? = some (.cells #[.int .i64 c.k, .int .i64 c.n, .string c.s] 23) ∧ w.heap.size + 2 < W.heap.size

theorem ThreeIn.next {w W W' : World} {a b c : Val} (h : ThreeIn w W a b c) (hb : Below W.heap.size W W') : ThreeIn w W' a b c := by
  have := hb.size
  exact ⟨h.1.next hb, (hb.block _ h.2.2).trans h.2.1, by have := h.2.2; omega⟩

theorem ThreeIn.drew {w W : World} {a b c : Val} (h : ThreeIn w W a b c) : ThreeIn w W.drew a b c := ⟨h.1.drew, h.2⟩

theorem ThreeIn.start (w : World) (a b c : Val) : ThreeIn w (((w.alloc (.cells #[.int .i64 a.k, .int .i64 a.n, .string a.s] 23)).alloc (.cells #[.int .i64 b.k, .int .i64 b.n, .string b.s] 23)).alloc (.cells #[.int .i64 c.k, .int .i64 c.n, .string c.s] 23)) a b c := by
  have h := TwoIn.start w a b
  have hs : ((w.alloc (.cells #[.int .i64 a.k, .int .i64 a.n, .string a.s] 23)).alloc (.cells #[.int .i64 b.k, .int .i64 b.n, .string b.s] 23)).heap.size = w.heap.size + 2 := by unfold World.alloc; simp
  refine ⟨h.next ((Below.refl _ _).alloc (Nat.le_refl _) _), ?_, ?_⟩
  · rw [← hs]; exact heap_alloc_new _ _
  · rw [← hs]; unfold World.alloc; simp

theorem ThreeIn.third {w W : World} {a b c : Val} (h : ThreeIn w W a b c) :
    (W.cell? ⟨w.heap.size + 2, 0, none⟩ = some (.int .i64 c.k) ∧ W.cell? ⟨w.heap.size + 2, 1, none⟩ = some (.int .i64 c.n) ∧ W.cell? ⟨w.heap.size + 2, 2, none⟩ = some (.string c.s)) ∧
    (W.frozen? ⟨w.heap.size + 2, 0, none⟩ = false ∧ W.frozen? ⟨w.heap.size + 2, 1, none⟩ = false ∧ W.frozen? ⟨w.heap.size + 2, 2, none⟩ = false) := by
  refine ⟨⟨?_, ?_, ?_⟩, ?_, ?_, ?_⟩ <;> simp [World.cell?, World.frozen?, h.2.1]


set_option maxRecDepth 20000 in
set_option maxHeartbeats 2000000 in
theorem Tryz.monthsA (x n : Val) (hs : x.s.size ≤ 9223372036854775807) (hns : n.s.size ≤ 9223372036854775807) (w : World) : Calls Tryz.prog 21 #[x.v, n.v] w fun e w' => e = .returned (monthsT x n).v ∧ Below w.heap.size w w' := by
  have hT := ThreeIn.start w x n Val.zero
  show Calls Tryz.prog 21 #[.agg #[.int .i64 x.k, .int .i64 x.n, .string x.s], .agg #[.int .i64 n.k, .int .i64 n.n, .string n.s]] w _
  by_cases hm : x.plain.k = 4
  · by_cases hi : n.plain.k = 2
    · obtain ⟨hx, hn1, hn2⟩ := moment_fine x hm
      obtain ⟨hnn, hi1, hi2⟩ := int_fine n hi
      obtain ⟨b1, b2, b3, b4, b5⟩ := dY_bounds hn1 hn2
      have hspec : monthsT x n = dateT ((dY x.n * 12 + dM x.n + n.n) / 12) ((dY x.n * 12 + dM x.n + n.n) - 12 * ((dY x.n * 12 + dM x.n + n.n) / 12) + 1)
          (min (dD x.n) (mdays ((dY x.n * 12 + dM x.n + n.n) / 12) ((dY x.n * 12 + dM x.n + n.n) - 12 * ((dY x.n * 12 + dM x.n + n.n) / 12) + 1)))
          (hourP x.n) (minP x.n) (secP x.n) := by unfold monthsT; rw [hm, hi, hx, hnn]; rfl
      have hall : allInt [n] = true := by simp [allInt, hi]
      rw [hspec]
      clear hspec hx hnn
      go_enter Tryz.func21, Tryz.ntmps21
      go_upto_region 6 with (first
        | (go_at_call 53; refine (Tryz.momentA x hs _).mono ?_; rintro e w1 ⟨rfl, hb1⟩; have hT1 := ThreeIn.next (a := x) (b := n) (c := Val.zero) hT hb1; obtain ⟨⟨c0, c1, c2⟩, ⟨d0, d1, d2⟩, ⟨f0, f1, f2⟩, g0, g1, g2⟩ := hT1.1.cells; obtain ⟨⟨z0, z1, z2⟩, y0, y1, y2⟩ := hT1.third)
        | (go_at_call 65; refine (Tryz.intsA [n] _ _ _ (rowAt_new _ n hns) (by simp)).mono ?_; rintro e w2 ⟨rfl, hb2⟩; have hT2 := ThreeIn.next (a := x) (b := n) (c := Val.zero) hT1 (below_call hb2); obtain ⟨⟨c0, c1, c2⟩, ⟨d0, d1, d2⟩, ⟨f0, f1, f2⟩, g0, g1, g2⟩ := hT2.1.cells; obtain ⟨⟨z0, z1, z2⟩, y0, y1, y2⟩ := hT2.third)
        | (go_at_call 55; refine (Tryz.dateOf x.n hn1 hn2 _).mono ?_; rintro e w3 ⟨rfl, hb3⟩; have hT3 := ThreeIn.next (a := x) (b := n) (c := Val.zero) hT2 hb3; have hTA := ThreeIn.next (a := x) (b := n) (c := Val.zero) hT3 ((Below.refl _ _).alloc (Nat.le_refl _) (.cells #[.int .i64 (dY x.n), .int .i64 (dM x.n + 1), .int .i64 (dD x.n), .int .i64 (hourP x.n), .int .i64 (minP x.n), .int .i64 (secP x.n)] 81)); obtain ⟨⟨c0, c1, c2⟩, ⟨d0, d1, d2⟩, ⟨f0, f1, f2⟩, g0, g1, g2⟩ := hTA.1.cells; obtain ⟨⟨z0, z1, z2⟩, y0, y1, y2⟩ := hTA.third)
        | (go_at_call 66; refine (Tryz.floorA _ (by omega) (by omega) _).mono ?_; rintro e w4 ⟨rfl, rfl⟩))
      have hA := heap_alloc_new w3 (.cells #[.int .i64 (dY x.n), .int .i64 (dM x.n + 1), .int .i64 (dD x.n), .int .i64 (hourP x.n), .int .i64 (minP x.n), .int .i64 (secP x.n)] 81)
      generalize w3.heap.size = g at hA ⊢
      generalize w3.alloc (.cells #[.int .i64 (dY x.n), .int .i64 (dM x.n + 1), .int .i64 (dD x.n), .int .i64 (hourP x.n), .int .i64 (minP x.n), .int .i64 (secP x.n)] 81) = W at hA hTA ⊢
      have a2 : W.drew.cell? ⟨g, 2, none⟩ = some (.int .i64 (dD x.n)) := cell_block hA
      have a3 : W.drew.cell? ⟨g, 3, none⟩ = some (.int .i64 (hourP x.n)) := cell_block hA
      have a4 : W.drew.cell? ⟨g, 4, none⟩ = some (.int .i64 (minP x.n)) := cell_block hA
      have a5 : W.drew.cell? ⟨g, 5, none⟩ = some (.int .i64 (secP x.n)) := cell_block hA
      refine wp_region_still_tail 14 tryz_mixed (by kernel_rfl) ?_
      change wpStill _ _ W.drew _ _ _
      simp only [List.take_succ_cons, List.take_zero, List.drop_succ_cons, List.drop_zero]
      still_step
      still_step
      still_step
      still_step
      still_step
      still_step
      still_call (Tryz.monthDaysA _ _ _)
      still_step
      still_step
      still_step
      still_step
      still_step
      still_step
      still_step
      refine wpStill_nil ?_
      change wpList _ _ _ _ _ _
      go_wp2_with (first
        | (go_at_call 19; refine (Tryz.dateA _ _ _ _ _ _ _).mono ?_; rintro e w5 ⟨rfl, hb5⟩; have hT5 := ThreeIn.next (a := x) (b := n) (c := Val.zero) hTA.drew hb5; obtain ⟨⟨c0, c1, c2⟩, ⟨d0, d1, d2⟩, ⟨f0, f1, f2⟩, g0, g1, g2⟩ := hT5.1.cells; obtain ⟨⟨z0, z1, z2⟩, y0, y1, y2⟩ := hT5.third; simp only [Val.v, valV]))
      refine bodyPost_ret (v := (dateT ((dY x.n * 12 + ((dM x.n : Int) + 1) - 1 + n.n) / 12) ((dY x.n * 12 + ((dM x.n : Int) + 1) - 1 + n.n) - 12 * ((dY x.n * 12 + ((dM x.n : Int) + 1) - 1 + n.n) / 12) + 1) (min (dD x.n) (mdays ((dY x.n * 12 + ((dM x.n : Int) + 1) - 1 + n.n) / 12) ((dY x.n * 12 + ((dM x.n : Int) + 1) - 1 + n.n) - 12 * ((dY x.n * 12 + ((dM x.n : Int) + 1) - 1 + n.n) / 12) + 1))) (hourP x.n) (minP x.n) (secP x.n)).v) (by simp [results, Tryz.results21, go_sem, Val.v, valV, z0, z1, z2]) rfl ⟨?_, ?_⟩
      · rw [show (dY x.n * 12 + ((dM x.n : Int) + 1) - 1 + n.n) = (dY x.n * 12 + (dM x.n : Int) + n.n) by omega]
      · refine Below.setCell (Below.setCell (Below.setCell hT5.1.2.2.1 ?_ _) ?_ _) ?_ _ <;> exact Nat.le_add_right w.heap.size 2
    · have hspec : monthsT x n = Val.zero := by unfold monthsT; simp [hi]
      have hall : allInt [n] = false := by simp [allInt, hi]
      rw [hspec]
      go_enter Tryz.func21, Tryz.ntmps21
      go_wp2_with (first
        | (go_at_call 53; refine (Tryz.momentA x hs _).mono ?_; rintro e w1 ⟨rfl, hb1⟩; have hT1 := ThreeIn.next (a := x) (b := n) (c := Val.zero) hT hb1; obtain ⟨⟨c0, c1, c2⟩, ⟨d0, d1, d2⟩, ⟨f0, f1, f2⟩, g0, g1, g2⟩ := hT1.1.cells; obtain ⟨⟨z0, z1, z2⟩, y0, y1, y2⟩ := hT1.third)
        | (go_at_call 65; refine (Tryz.intsA [n] _ _ _ (rowAt_new _ n hns) (by simp)).mono ?_; rintro e w2 ⟨rfl, hb2⟩; have hT2 := ThreeIn.next (a := x) (b := n) (c := Val.zero) hT1 (below_call hb2); obtain ⟨⟨c0, c1, c2⟩, ⟨d0, d1, d2⟩, ⟨f0, f1, f2⟩, g0, g1, g2⟩ := hT2.1.cells; obtain ⟨⟨z0, z1, z2⟩, y0, y1, y2⟩ := hT2.third))
      refine bodyPost_ret (v := valV 0 0 ⟨#[]⟩) (by simp [results, Tryz.results21, go_sem, valV, z0, z1, z2]) rfl ⟨rfl, ?_⟩
      refine Below.setCell (Below.setCell (Below.setCell hT2.1.2.2.1 ?_ _) ?_ _) ?_ _ <;> exact Nat.le_add_right w.heap.size 2
  · have hspec : monthsT x n = Val.zero := by unfold monthsT; simp [hm]
    rw [hspec]
    go_enter Tryz.func21, Tryz.ntmps21
    go_wp2_with (first
      | (go_at_call 53; refine (Tryz.momentA x hs _).mono ?_; rintro e w1 ⟨rfl, hb1⟩; have hT1 := ThreeIn.next (a := x) (b := n) (c := Val.zero) hT hb1; obtain ⟨⟨c0, c1, c2⟩, ⟨d0, d1, d2⟩, ⟨f0, f1, f2⟩, g0, g1, g2⟩ := hT1.1.cells; obtain ⟨⟨z0, z1, z2⟩, y0, y1, y2⟩ := hT1.third))
    refine bodyPost_ret (v := valV 0 0 ⟨#[]⟩) (by simp [results, Tryz.results21, go_sem, valV, z0, z1, z2]) rfl ⟨rfl, ?_⟩
    refine Below.setCell (Below.setCell (Below.setCell hT1.1.2.2.1 ?_ _) ?_ _) ?_ _ <;> exact Nat.le_add_right w.heap.size 2


theorem ThreeIn.stored {w W : World} {a b c : Val} (x y : Val) (h : ThreeIn w W a b c) :
    ThreeIn w ((((((W.setCell ⟨w.heap.size, 0, none⟩ (.int .i64 x.k)).setCell ⟨w.heap.size, 1, none⟩ (.int .i64 x.n)).setCell ⟨w.heap.size, 2, none⟩ (.string x.s)).setCell ⟨w.heap.size + 1, 0, none⟩ (.int .i64 y.k)).setCell ⟨w.heap.size + 1, 1, none⟩ (.int .i64 y.n)).setCell ⟨w.heap.size + 1, 2, none⟩ (.string y.s)) x y c := by
  refine ⟨h.1.stored x y, ?_, by simp only [size_set]; exact h.2.2⟩
  rw [block_set_ne (by omega), block_set_ne (by omega), block_set_ne (by omega), block_set_ne (by omega), block_set_ne (by omega), block_set_ne (by omega)]
  exact h.2.1

end Go.Proofs
