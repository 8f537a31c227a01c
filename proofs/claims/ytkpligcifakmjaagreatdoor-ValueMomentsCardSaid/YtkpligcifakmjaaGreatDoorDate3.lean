/- Of package value and of the document's package: the moment of a date. No condition. -/
import Derived.Test.YtkpligcifakmjaaGreatDoorDate2
namespace Go.Proofs
open Go.RowKit

theorem inB_true {n a b : Int} (h : inB n a b = true) : a ≤ n ∧ n ≤ b := by
  unfold inB at h
  simpa using h

def dateT (y m d h mi s : Int) : Val :=
  if inB y 1970 9999 && inB m 1 12 && inB d 1 (mdays y m) && inB h 0 23 && inB mi 0 59 && inB s 0 59 then Val.plain ⟨4, (((yday y + mstart y (m - 1).toNat + d - 1) * 24 + h) * 60 + mi) * 60 + s, ⟨#[]⟩⟩ else Val.zero

theorem dateT_true {y m d h mi s : Int} (h1 : inB y 1970 9999 = true) (h2 : inB m 1 12 = true) (h3 : inB d 1 (mdays y m) = true) (h4 : inB h 0 23 = true) (h5 : inB mi 0 59 = true) (h6 : inB s 0 59 = true) :
    dateT y m d h mi s = Val.plain ⟨4, (((yday y + mstart y (m - 1).toNat + d - 1) * 24 + h) * 60 + mi) * 60 + s, ⟨#[]⟩⟩ := by
  unfold dateT
  rw [h1, h2, h3, h4, h5, h6]
  rfl

theorem date_bounds {y : Int} (hy : 1970 ≤ y ∧ y ≤ 9999) (j : Nat) (hj : j ≤ 12) : 0 ≤ yday y ∧ yday y ≤ 3000000 ∧ 0 ≤ mstart y j ∧ mstart y j ≤ 366 := by
  have h1 := year_low hy.1
  have h2 := yday_above hy.1
  rw [yday_first] at h2
  have h3 : 0 ≤ mstart y j := mstart_mono y (Nat.zero_le j)
  have h4 := mstart_mono y hj
  rw [mstart_year] at h4
  have h5 := ydays_le y
  omega

abbrev zero23 : Obj := .cells #[.int .i64 0, .int .i64 0, .string ⟨#[]⟩] 23

set_option maxRecDepth 20000 in
set_option maxHeartbeats 1000000 in
theorem Tryz.dateA (y m d h mi s : Int) (w : World) : Calls Tryz.prog 19 #[.int .i64 y, .int .i64 m, .int .i64 d, .int .i64 h, .int .i64 mi, .int .i64 s] w fun e w' =>
    e = .returned (dateT y m d h mi s).v ∧ Below w.heap.size w w' := by
  go_enter Tryz.func19, Tryz.ntmps19
  go_upto_region 3 with (first
    | (go_at_call 48; refine (Tryz.within _ _ _ _).mono ?_; rintro e w' ⟨rfl, rfl⟩)
    | (go_at_call 60; refine (Tryz.monthDaysA _ _ _).mono ?_; rintro e w' ⟨rfl, rfl⟩))
  all_goals first
    | (refine bodyPost_ret (v := valV 0 0 ⟨#[]⟩) (by simp [results, Tryz.results19, go_sem, valV]) rfl ⟨?_, ?_⟩
       · show _ = Ending.returned (dateT y m d h mi s).v
         unfold dateT
         simp_all [Val.v, Val.zero]
       · exact (Below.refl _ _).alloc (Nat.le_refl _) _)
    | skip
  · have h6' : (!inB s 0 59) = false := by assumption
    have h1 : inB y 1970 9999 = true := by assumption
    have h2 : inB m 1 12 = true := by assumption
    have h3 : inB d 1 (mdays y m) = true := by assumption
    have h4 : inB h 0 23 = true := by assumption
    have h5 : inB mi 0 59 = true := by assumption
    have h6 : inB s 0 59 = true := by simpa using h6'
    have hD := dateT_true h1 h2 h3 h4 h5 h6
    obtain ⟨y1, y2⟩ := inB_true h1
    obtain ⟨m1, m2⟩ := inB_true h2
    obtain ⟨d1, d2⟩ := inB_true h3
    obtain ⟨g1, g2⟩ := inB_true h4
    obtain ⟨i1, i2⟩ := inB_true h5
    obtain ⟨s1, s2⟩ := inB_true h6
    have hmd := mdays_le y m
    have hyb := date_bounds (y := y) ⟨y1, y2⟩ 0 (by omega)
    clear h1 h2 h3 h4 h5 h6 h6'
    go_wp2_with (first | (go_at_call 61; refine (Tryz.yearDayA _ (by omega) (by omega) _).mono ?_; rintro e w' ⟨rfl, rfl⟩))
    go_loopw [13, 14] (fun a k wr => ∃ j : Nat, a = .int .i64 (yday y + d - 1 + mstart y j) ∧ k = .int .i64 (j + 1) ∧ (j : Int) + 1 ≤ m ∧ wr = w.alloc zero23) (fun _ k _ => (13 - intOf k).toNat)
    case atStart => exact ⟨0, by simp [mstart], by go_num, by omega, by trivial⟩
    case round =>
      obtain ⟨j, rfl, rfl, hjm, rfl⟩ := hrel
      have hjb := date_bounds (y := y) ⟨y1, y2⟩ j (by omega)
      have hm1 := mdays_ge y (j + 1)
      have hm2 := mdays_le y (j + 1)
      by_cases hlt : (j : Int) + 1 < m
      · go_wp2_with (first | (go_at_call 60; refine (Tryz.monthDaysA _ _ _).mono ?_; rintro e w' ⟨rfl, rfl⟩))
        go_roundw
        case rel => exact ⟨j + 1, congrArg (Value.int .i64) (show _ = yday y + d - 1 + mstart y (j + 1) by have hn : mstart y (j + 1) = mstart y j + mdays y (j + 1) := rfl; rw [hn]; omega), by go_num, by omega, by trivial⟩
        case measure => simp [intOf]; omega
      · go_wp2_with (first | (go_at_call 54; refine (Tryz.number 4 _ _).mono ?_; rintro e w' ⟨rfl, hb⟩; obtain ⟨b1, hz, hb'⟩ := one_kept hb; obtain ⟨⟨c0, c1, c2⟩, f0, f1, f2⟩ := free_zero b1; simp only [Val.v, valV]))
        refine bodyPost_ret (v := (Val.plain ⟨4, (yday y + d - 1 + mstart y j) * 86400 + h * 3600 + mi * 60 + s, ⟨#[]⟩⟩).v) (by simp [results, Tryz.results19, go_sem, Val.v, valV, *]) rfl ⟨?_, ?_⟩
        · rw [show m.toNat - 1 = j by omega]
          exact congrArg (fun z => Ending.returned (Val.plain ⟨4, z, ⟨#[]⟩⟩).v) (by omega)
        · refine Below.setCell (Below.setCell (Below.setCell hb' ?_ _) ?_ _) ?_ _ <;> exact Nat.le_refl _

set_option maxRecDepth 20000 in
set_option maxHeartbeats 1000000 in
theorem Tryz.dateC (y m d h mi s : Int) (w : World) : Calls Tryz.prog 20 #[.int .i64 y, .int .i64 m, .int .i64 d, .int .i64 h, .int .i64 mi, .int .i64 s] w fun e w' =>
    e = .returned (dateT y m d h mi s).v ∧ Below w.heap.size w w' := by
  go_enter Tryz.func20, Tryz.ntmps20
  go_upto_region 3 with (first
    | (go_at_call 57; refine (Tryz.within2 _ _ _ _).mono ?_; rintro e w' ⟨rfl, rfl⟩)
    | (go_at_call 62; refine (Tryz.monthDaysC _ _ _).mono ?_; rintro e w' ⟨rfl, rfl⟩))
  all_goals first
    | (refine bodyPost_ret (v := valV 0 0 ⟨#[]⟩) (by simp [results, Tryz.results20, go_sem, valV]) rfl ⟨?_, ?_⟩
       · show _ = Ending.returned (dateT y m d h mi s).v
         unfold dateT
         simp_all [Val.v, Val.zero]
       · exact (Below.refl _ _).alloc (Nat.le_refl _) _)
    | skip
  · have h6' : (!inB s 0 59) = false := by assumption
    have h1 : inB y 1970 9999 = true := by assumption
    have h2 : inB m 1 12 = true := by assumption
    have h3 : inB d 1 (mdays y m) = true := by assumption
    have h4 : inB h 0 23 = true := by assumption
    have h5 : inB mi 0 59 = true := by assumption
    have h6 : inB s 0 59 = true := by simpa using h6'
    have hD := dateT_true h1 h2 h3 h4 h5 h6
    obtain ⟨y1, y2⟩ := inB_true h1
    obtain ⟨m1, m2⟩ := inB_true h2
    obtain ⟨d1, d2⟩ := inB_true h3
    obtain ⟨g1, g2⟩ := inB_true h4
    obtain ⟨i1, i2⟩ := inB_true h5
    obtain ⟨s1, s2⟩ := inB_true h6
    have hmd := mdays_le y m
    have hyb := date_bounds (y := y) ⟨y1, y2⟩ 0 (by omega)
    simp only [h6, Bool.not_true]
    clear h1 h2 h3 h4 h5 h6 h6'
    go_wp2_with fail
    go_loopw [13, 14] (fun a k wr => ∃ z : Int, a = .int .i64 (d - 1 + yday z) ∧ k = .int .i64 z ∧ 1970 ≤ z ∧ z ≤ y ∧ wr = w.alloc zero23) (fun _ k _ => (y - intOf k).toNat)
    case atStart => exact ⟨1970, by rw [yday_first]; go_num, rfl, by omega, by omega, by trivial⟩
    case round =>
      obtain ⟨z, rfl, rfl, hz1, hz2, rfl⟩ := hrel
      have hzb := date_bounds (y := z) ⟨hz1, by omega⟩ 0 (by omega)
      have hY1 := ydays_ge z
      have hY2 := ydays_le z
      by_cases hlt : z < y
      · go_wp2_with (first | (go_at_call 63; refine (Tryz.yearDaysC _ _).mono ?_; rintro e w' ⟨rfl, rfl⟩))
        go_roundw
        case rel => exact ⟨z + 1, congrArg (Value.int .i64) (show d - 1 + yday z + ydays z = d - 1 + yday (z + 1) by have := yday_succ z; omega), rfl, by omega, by omega, by trivial⟩
        case measure => simp [intOf]; omega
      · have hzy : z = y := by omega
        subst hzy
        go_wp2_with fail
        go_loopw [13, 15] (fun a k wr => ∃ j : Nat, a = .int .i64 (d - 1 + yday z + mstart z j) ∧ k = .int .i64 (j + 1) ∧ (j : Int) + 1 ≤ m ∧ wr = w.alloc zero23) (fun _ k _ => (13 - intOf k).toNat)
        case atStart => exact ⟨0, by simp [mstart], by go_num, by omega, by trivial⟩
        case round =>
          obtain ⟨j, rfl, rfl, hjm, rfl⟩ := hrel
          have hjb := date_bounds (y := z) ⟨y1, y2⟩ j (by omega)
          have hm1 := mdays_ge z (j + 1)
          have hm2 := mdays_le z (j + 1)
          by_cases hlt : (j : Int) + 1 < m
          · go_wp2_with (first | (go_at_call 62; refine (Tryz.monthDaysC _ _ _).mono ?_; rintro e w' ⟨rfl, rfl⟩))
            go_roundw
            case rel => exact ⟨j + 1, congrArg (Value.int .i64) (show _ = d - 1 + yday z + mstart z (j + 1) by have hn : mstart z (j + 1) = mstart z j + mdays z (j + 1) := rfl; rw [hn]; omega), by go_num, by omega, by trivial⟩
            case measure => simp [intOf]; omega
          · go_wp2_with (first | (go_at_call 64; refine (Tryz.momentR _ _).mono ?_; rintro e w' ⟨rfl, hb⟩; obtain ⟨b1, hz, hb'⟩ := one_kept hb; obtain ⟨⟨c0, c1, c2⟩, f0, f1, f2⟩ := free_zero b1; simp only [Val.v, valV]))
            refine bodyPost_ret (v := (Val.plain ⟨4, (((d - 1 + yday z + mstart z j) * 24 + h) * 60 + mi) * 60 + s, ⟨#[]⟩⟩).v) (by simp [results, Tryz.results20, go_sem, Val.v, valV, *]) rfl ⟨?_, ?_⟩
            · rw [show m.toNat - 1 = j by omega]
              exact congrArg (fun z => Ending.returned (Val.plain ⟨4, z, ⟨#[]⟩⟩).v) (by omega)
            · refine Below.setCell (Below.setCell (Below.setCell hb' ?_ _) ?_ _) ?_ _ <;> exact Nat.le_refl _

end Go.Proofs
