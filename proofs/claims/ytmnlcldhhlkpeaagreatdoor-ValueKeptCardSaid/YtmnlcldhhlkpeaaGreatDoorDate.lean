/- Of package value: a number of seconds as a date, and the moment of a date. No condition. -/
import Derived.Test.YtmnlcldhhlkpeaaGreatDoorNum
import Derived.Test.YtmnlcldhhlkpeaaGreatDoorCal
namespace Go.Proofs
open Go.RowKit

theorem tmod_zero (y k : Int) : y.tmod k = 0 ↔ y % k = 0 := by rw [← Int.dvd_iff_tmod_eq_zero, ← Int.dvd_iff_emod_eq_zero]

theorem Tryz.leapA (y : Int) (w : World) : Calls Tryz.prog 264 #[.int .i64 y] w fun e w' => e = .returned (.bool (leapB y)) ∧ w' = w := by
  have h4 := tmod_zero y 4
  have h100 := tmod_zero y 100
  have h400 := tmod_zero y 400
  go_enter Tryz.func264, Tryz.ntmps264
  go_wp2
  all_goals go_ret
  all_goals refine ⟨congrArg (fun z => Ending.returned (.bool z)) ?_, rfl⟩
  all_goals (show _ = leapB _; unfold leapB; grind)

theorem Tryz.monthDaysA (y m : Int) (w : World) : Calls Tryz.prog 166 #[.int .i64 y, .int .i64 m] w fun e w' => e = .returned (.int .i64 (mdays y m)) ∧ w' = w := by
  go_enter Tryz.func166, Tryz.ntmps166
  go_wp2_with (go_at_call 264; refine (Tryz.leapA _ _).mono ?_; rintro e w' ⟨rfl, rfl⟩)
  all_goals go_ret
  all_goals refine ⟨congrArg (fun z => Ending.returned (.int .i64 z)) ?_, rfl⟩
  all_goals (show _ = mdays _ _; unfold mdays; simp [*])

theorem Tryz.yearDayA (y : Int) (h1 : 1 ≤ y) (h2 : y ≤ 1000000000) (w : World) : Calls Tryz.prog 165 #[.int .i64 y] w fun e w' => e = .returned (.int .i64 (yday y)) ∧ w' = w := by
  have e4 : (y - 1).tdiv 4 = (y - 1) / 4 := Int.tdiv_eq_ediv_of_nonneg (by omega)
  have e100 : (y - 1).tdiv 100 = (y - 1) / 100 := Int.tdiv_eq_ediv_of_nonneg (by omega)
  have e400 : (y - 1).tdiv 400 = (y - 1) / 400 := Int.tdiv_eq_ediv_of_nonneg (by omega)
  go_enter Tryz.func165, Tryz.ntmps165
  go_wp2
  go_ret
  exact ⟨rfl, rfl⟩

noncomputable def dY (n : Int) : Int := yearOf (n / 86400)

noncomputable def dM (n : Int) : Nat := monthOf (dY n) (n / 86400 - yday (dY n))

noncomputable def dD (n : Int) : Int := n / 86400 - yday (dY n) - mstart (dY n) (dM n) + 1

def hourP (n : Int) : Int := n % 86400 / 3600

def minP (n : Int) : Int := n % 86400 % 3600 / 60

def secP (n : Int) : Int := n % 86400 % 60

theorem year_low {y : Int} (h : 1970 ≤ y) : 365 * (y - 1970) ≤ yday y := by
  have := yday_mono h
  rw [yday_first] at this
  omega

set_option maxRecDepth 20000 in
theorem Tryz.dateOf (n : Int) (h0 : 0 ≤ n) (h1 : n ≤ 253402300799) (w : World) : Calls Tryz.prog 93 #[.int .i64 n] w fun e w' =>
    e = .returned (.agg #[.int .i64 (dY n), .int .i64 (dM n + 1), .int .i64 (dD n), .int .i64 (hourP n), .int .i64 (minP n), .int .i64 (secP n)]) ∧ Below w.heap.size w w' := by
  have e1 : n.tdiv 86400 = n / 86400 := Int.tdiv_eq_ediv_of_nonneg h0
  have e2 : n.tmod 86400 = n % 86400 := Int.tmod_eq_emod_of_nonneg h0
  have e3 : (n / 86400).tdiv 366 = n / 86400 / 366 := Int.tdiv_eq_ediv_of_nonneg (by omega)
  have e4 : (n % 86400).tdiv 3600 = n % 86400 / 3600 := Int.tdiv_eq_ediv_of_nonneg (by omega)
  have e5 : (n % 86400).tmod 3600 = n % 86400 % 3600 := Int.tmod_eq_emod_of_nonneg (by omega)
  have e6 : (n % 86400 % 3600).tdiv 60 = n % 86400 % 3600 / 60 := Int.tdiv_eq_ediv_of_nonneg (by omega)
  have e7 : (n % 86400).tmod 60 = n % 86400 % 60 := Int.tmod_eq_emod_of_nonneg (by omega)
  go_enter Tryz.func93, Tryz.ntmps93
  go_wp2_with fail
  go_loop [5] (fun i => ∃ y : Int, i = .int .i64 y ∧ 1970 ≤ y ∧ yday y ≤ n / 86400) (fun i => (n / 86400 + 1 - yday (intOf i)).toNat)
  case atStart => exact ⟨1970 + n / 86400 / 366, by go_num, by omega, by have := yday_above (show (1970 : Int) ≤ 1970 + n / 86400 / 366 by omega); rw [yday_first] at this; omega⟩
  case round =>
    obtain ⟨y, rfl, hy, hle⟩ := hrel
    have hlow := year_low hy
    go_wp2_with (first
      | (go_at_call 165; refine (Tryz.yearDayA _ (by omega) (by omega) _).mono ?_; rintro e w2 ⟨rfl, rfl⟩))
    · rename_i hlt
      go_round
      case rel => exact ⟨y + 1, rfl, by omega, hlt⟩
      case measure => have := yday_succ y; have := ydays_ge y; simp [intOf]; omega
    · have hgt : n / 86400 < yday (y + 1) := by assumption
      have hD : n / 86400 - yday y < ydays y := by have := yday_succ y; omega
      have hYl := ydays_le y
      go_loopw [3, 6] (fun d m wr => ∃ k : Nat, d = .int .i64 (n / 86400 - yday y - mstart y k) ∧ m = .int .i64 (k + 1) ∧ k < 12 ∧ mstart y k ≤ n / 86400 - yday y ∧ wr = w.alloc (.cells #[.int .i64 0, .int .i64 0, .int .i64 0, .int .i64 0, .int .i64 0, .int .i64 0] 142)) (fun _ m _ => (13 - intOf m).toNat)
      case atStart => exact ⟨0, by simp [mstart], by go_num, by omega, by simp [mstart]; omega, rfl⟩
      case round =>
        obtain ⟨k, rfl, rfl, hk, hms, rfl⟩ := hrel
        have hm1 := mdays_ge y (k + 1)
        have hm2 := mdays_le y (k + 1)
        have hms0 : 0 ≤ mstart y k := mstart_mono y (Nat.zero_le k)
        go_wp2_with (first
          | (go_at_call 166; refine (Tryz.monthDaysA _ _ _).mono ?_; rintro e w2 ⟨rfl, rfl⟩))
        · have hup : mdays y (k + 1) ≤ n / 86400 - yday y - mstart y k := by assumption
          have hk2 : k + 1 < 12 := by
            have hnext : mstart y (k + 1) = mstart y k + mdays y (k + 1) := rfl
            have h12 := mstart_year y
            by_cases h : k + 1 = 12
            · rw [h] at hnext; omega
            · omega
          go_roundw
          case rel => exact ⟨k + 1, congrArg (Value.int .i64) (show _ = n / 86400 - yday y - mstart y (k + 1) by have hnext : mstart y (k + 1) = mstart y k + mdays y (k + 1) := rfl; rw [hnext]; omega), by go_num, hk2, by have hnext : mstart y (k + 1) = mstart y k + mdays y (k + 1) := rfl; omega, by trivial⟩
          case measure => simp [intOf]; omega
        · have hend : n / 86400 - yday y - mstart y k < mdays y (k + 1) := by assumption
          have hisy : y = dY n := yearOf_is ⟨hy, hle, hgt⟩
          have hism : k = dM n := by
            unfold dM
            rw [← hisy]
            exact monthOf_is ⟨hk, hms, by show _ < mstart y k + mdays y (k + 1); omega⟩
          have hday : n / 86400 - yday y - mstart y k + 1 = dD n := by unfold dD; rw [← hisy, ← hism]
          refine bodyPost_ret (v := .agg #[.int .i64 y, .int .i64 (k + 1), .int .i64 (n / 86400 - yday y - mstart y k + 1), .int .i64 (n % 86400 / 3600), .int .i64 (n % 86400 % 3600 / 60), .int .i64 (n % 86400 % 60)]) (by simp [results, Tryz.results93, go_sem]) rfl ⟨by unfold hourP minP secP; rw [hday, hisy, hism], ?_⟩
          exact (Below.refl _ _).alloc (Nat.le_refl _) _

theorem inB_true {n a b : Int} (h : inB n a b = true) : a ≤ n ∧ n ≤ b := by
  unfold inB at h
  simpa using h

def dateT (y m d h mi s : Int) : Val :=
  if inB y 1970 9999 && inB m 1 12 && inB d 1 (mdays y m) && inB h 0 23 && inB mi 0 59 && inB s 0 59 then Val.plain ⟨4, (((yday y + mstart y (m - 1).toNat + d - 1) * 24 + h) * 60 + mi) * 60 + s, ⟨#[]⟩⟩ else Val.zero

theorem dateT_true {y m d h mi s : Int} (h1 : inB y 1970 9999 = true) (h2 : inB m 1 12 = true) (h3 : inB d 1 (mdays y m) = true) (h4 : inB h 0 23 = true) (h5 : inB mi 0 59 = true) (h6 : inB s 0 59 = true) :
    dateT y m d h mi s = Val.plain ⟨4, (((yday y + mstart y (m - 1).toNat + d - 1) * 24 + h) * 60 + mi) * 60 + s, ⟨#[]⟩⟩ := by
  unfold dateT
  rw [h1, h2, h3, h4, h5, h6]
  rfl

theorem date_bounds {y : Int} (hy : 1970 ≤ y ∧ y ≤ 9999) (j : Nat) (hj : j ≤ 12) : 0 ≤ yday y ∧ yday y ≤ 3000000 ∧ 0 ≤ mstart y j ∧ mstart y j ≤ 366 := by
  have h1 := year_low hy.1
  have h2 := yday_above hy.1
  rw [yday_first] at h2
  have h3 : 0 ≤ mstart y j := mstart_mono y (Nat.zero_le j)
  have h4 := mstart_mono y hj
  rw [mstart_year] at h4
  have h5 := ydays_le y
  omega

abbrev zero23 : Obj := .cells #[.int .i64 0, .int .i64 0, .string ⟨#[]⟩] 23

set_option maxRecDepth 20000 in
set_option maxHeartbeats 1000000 in
theorem Tryz.dateA (y m d h mi s : Int) (w : World) : Calls Tryz.prog 154 #[.int .i64 y, .int .i64 m, .int .i64 d, .int .i64 h, .int .i64 mi, .int .i64 s] w fun e w' =>
    e = .returned (dateT y m d h mi s).v ∧ Below w.heap.size w w' := by
  go_enter Tryz.func154, Tryz.ntmps154
  go_upto_region 3 with (first
    | (go_at_call 48; refine (Tryz.within _ _ _ _).mono ?_; rintro e w' ⟨rfl, rfl⟩)
    | (go_at_call 166; refine (Tryz.monthDaysA _ _ _).mono ?_; rintro e w' ⟨rfl, rfl⟩))
  all_goals first
    | (refine bodyPost_ret (v := valV 0 0 ⟨#[]⟩) (by simp [results, Tryz.results154, go_sem, valV]) rfl ⟨?_, ?_⟩
       · show _ = Ending.returned (dateT y m d h mi s).v
         unfold dateT
         simp_all [Val.v, Val.zero]
       · exact (Below.refl _ _).alloc (Nat.le_refl _) _)
    | skip
  · have h6' : (!inB s 0 59) = false := by assumption
    have h1 : inB y 1970 9999 = true := by assumption
    have h2 : inB m 1 12 = true := by assumption
    have h3 : inB d 1 (mdays y m) = true := by assumption
    have h4 : inB h 0 23 = true := by assumption
    have h5 : inB mi 0 59 = true := by assumption
    have h6 : inB s 0 59 = true := by simpa using h6'
    have hD := dateT_true h1 h2 h3 h4 h5 h6
    obtain ⟨y1, y2⟩ := inB_true h1
    obtain ⟨m1, m2⟩ := inB_true h2
    obtain ⟨d1, d2⟩ := inB_true h3
    obtain ⟨g1, g2⟩ := inB_true h4
    obtain ⟨i1, i2⟩ := inB_true h5
    obtain ⟨s1, s2⟩ := inB_true h6
    have hmd := mdays_le y m
    have hyb := date_bounds (y := y) ⟨y1, y2⟩ 0 (by omega)
    clear h1 h2 h3 h4 h5 h6 h6'
    go_wp2_with (first | (go_at_call 165; refine (Tryz.yearDayA _ (by omega) (by omega) _).mono ?_; rintro e w' ⟨rfl, rfl⟩))
    go_loopw [13, 14] (fun a k wr => ∃ j : Nat, a = .int .i64 (yday y + d - 1 + mstart y j) ∧ k = .int .i64 (j + 1) ∧ (j : Int) + 1 ≤ m ∧ wr = w.alloc zero23) (fun _ k _ => (13 - intOf k).toNat)
    case atStart => exact ⟨0, by simp [mstart], by go_num, by omega, by trivial⟩
    case round =>
      obtain ⟨j, rfl, rfl, hjm, rfl⟩ := hrel
      have hjb := date_bounds (y := y) ⟨y1, y2⟩ j (by omega)
      have hm1 := mdays_ge y (j + 1)
      have hm2 := mdays_le y (j + 1)
      by_cases hlt : (j : Int) + 1 < m
      · go_wp2_with (first | (go_at_call 166; refine (Tryz.monthDaysA _ _ _).mono ?_; rintro e w' ⟨rfl, rfl⟩))
        go_roundw
        case rel => exact ⟨j + 1, congrArg (Value.int .i64) (show _ = yday y + d - 1 + mstart y (j + 1) by have hn : mstart y (j + 1) = mstart y j + mdays y (j + 1) := rfl; rw [hn]; omega), by go_num, by omega, by trivial⟩
        case measure => simp [intOf]; omega
      · go_wp2_with (first | (go_at_call 33; refine (Tryz.number 4 _ _).mono ?_; rintro e w' ⟨rfl, hb⟩; obtain ⟨b1, hz, hb'⟩ := one_kept hb; obtain ⟨⟨c0, c1, c2⟩, f0, f1, f2⟩ := free_zero b1; simp only [Val.v, valV]))
        refine bodyPost_ret (v := (Val.plain ⟨4, (yday y + d - 1 + mstart y j) * 86400 + h * 3600 + mi * 60 + s, ⟨#[]⟩⟩).v) (by simp [results, Tryz.results154, go_sem, Val.v, valV, *]) rfl ⟨?_, ?_⟩
        · rw [show m.toNat - 1 = j by omega]
          exact congrArg (fun z => Ending.returned (Val.plain ⟨4, z, ⟨#[]⟩⟩).v) (by omega)
        · refine Below.setCell (Below.setCell (Below.setCell hb' ?_ _) ?_ _) ?_ _ <;> exact Nat.le_refl _

theorem year_exists (D : Int) (h : 0 ≤ D) : ∃ y, IsYear D y := by
  have key : ∀ k : Nat, D < yday (1970 + k) → ∃ y, IsYear D y := by
    intro k
    induction k with
    | zero => intro h'; simp only [Int.natCast_zero, Int.add_zero, yday_first] at h'; omega
    | succ k ih =>
      intro h'
      by_cases hk : D < yday (1970 + k)
      · exact ih hk
      · exact ⟨1970 + k, by omega, by omega, by rw [show (1970 : Int) + k + 1 = 1970 + ((k + 1 : Nat) : Int) by omega]; exact h'⟩
  refine key (D.toNat + 1) ?_
  have := yday_up 1970 (D.toNat + 1)
  rw [yday_first] at this
  omega

theorem month_exists (y d : Int) (h : 0 ≤ d) (h2 : d < ydays y) : ∃ m, IsMonth y d m := by
  have key : ∀ k : Nat, k ≤ 12 → d < mstart y k → ∃ m, IsMonth y d m := by
    intro k
    induction k with
    | zero => intro _ h'; exact absurd h' (by show ¬ d < 0; omega)
    | succ k ih =>
      intro hk h'
      by_cases hd : d < mstart y k
      · exact ih (by omega) hd
      · exact ⟨k, by omega, by omega, h'⟩
  exact key 12 (Nat.le_refl _) (by rw [mstart_year]; exact h2)

theorem dY_bounds {n : Int} (h : 0 ≤ n) (h2 : n ≤ 253402300799) : 1970 ≤ dY n ∧ dY n ≤ 12000 ∧ dM n < 12 ∧ 1 ≤ dD n ∧ dD n ≤ 366 := by
  obtain ⟨y, hy⟩ := year_exists (n / 86400) (by omega)
  have e : y = dY n := yearOf_is hy
  subst e
  obtain ⟨h3, h4, h5⟩ := hy
  have h6 := year_low h3
  have h7 := yday_succ (dY n)
  have h8 := ydays_le (dY n)
  obtain ⟨m, hm⟩ := month_exists (dY n) (n / 86400 - yday (dY n)) (by omega) (by omega)
  have e : m = dM n := monthOf_is hm
  subst e
  obtain ⟨k1, k2, k3⟩ := hm
  have k4 : 0 ≤ mstart (dY n) (dM n) := mstart_mono (dY n) (Nat.zero_le _)
  exact ⟨h3, by omega, k1, by unfold dD; omega, by unfold dD; omega⟩

end Go.Proofs
