/- Of package value and of the document's package: a number of seconds as a date. No condition. -/
import Derived.Test.YtkpligcifakmjaaGreatDoorDate
namespace Go.Proofs
open Go.RowKit

noncomputable def dY (n : Int) : Int := yearOf (n / 86400)
noncomputable def dM (n : Int) : Nat := monthOf (dY n) (n / 86400 - yday (dY n))
noncomputable def dD (n : Int) : Int := n / 86400 - yday (dY n) - mstart (dY n) (dM n) + 1

def hourP (n : Int) : Int := n % 86400 / 3600
def minP (n : Int) : Int := n % 86400 % 3600 / 60
def secP (n : Int) : Int := n % 86400 % 60

theorem year_low {y : Int} (h : 1970 ≤ y) : 365 * (y - 1970) ≤ yday y := by
  have := yday_mono h
  rw [yday_first] at this
  omega

set_option maxRecDepth 20000 in
theorem Tryz.dateOf (n : Int) (h0 : 0 ≤ n) (h1 : n ≤ 253402300799) (w : World) : Calls Tryz.prog 55 #[.int .i64 n] w fun e w' =>
    e = .returned (.agg #[.int .i64 (dY n), .int .i64 (dM n + 1), .int .i64 (dD n), .int .i64 (hourP n), .int .i64 (minP n), .int .i64 (secP n)]) ∧ Below w.heap.size w w' := by
  have e1 : n.tdiv 86400 = n / 86400 := Int.tdiv_eq_ediv_of_nonneg h0
  have e2 : n.tmod 86400 = n % 86400 := Int.tmod_eq_emod_of_nonneg h0
  have e3 : (n / 86400).tdiv 366 = n / 86400 / 366 := Int.tdiv_eq_ediv_of_nonneg (by omega)
  have e4 : (n % 86400).tdiv 3600 = n % 86400 / 3600 := Int.tdiv_eq_ediv_of_nonneg (by omega)
  have e5 : (n % 86400).tmod 3600 = n % 86400 % 3600 := Int.tmod_eq_emod_of_nonneg (by omega)
  have e6 : (n % 86400 % 3600).tdiv 60 = n % 86400 % 3600 / 60 := Int.tdiv_eq_ediv_of_nonneg (by omega)
  have e7 : (n % 86400).tmod 60 = n % 86400 % 60 := Int.tmod_eq_emod_of_nonneg (by omega)
  go_enter Tryz.func55, Tryz.ntmps55
  go_wp2_with fail
  go_loop [5] (fun i => ∃ y : Int, i = .int .i64 y ∧ 1970 ≤ y ∧ yday y ≤ n / 86400) (fun i => (n / 86400 + 1 - yday (intOf i)).toNat)
  case atStart => exact ⟨1970 + n / 86400 / 366, by go_num, by omega, by have := yday_above (show (1970 : Int) ≤ 1970 + n / 86400 / 366 by omega); rw [yday_first] at this; omega⟩
  case round =>
    obtain ⟨y, rfl, hy, hle⟩ := hrel
    have hlow := year_low hy
    go_wp2_with (first
      | (go_at_call 61; refine (Tryz.yearDayA _ (by omega) (by omega) _).mono ?_; rintro e w2 ⟨rfl, rfl⟩))
    · rename_i hlt
      go_round
      case rel => exact ⟨y + 1, rfl, by omega, hlt⟩
      case measure => have := yday_succ y; have := ydays_ge y; simp [intOf]; omega
    · have hgt : n / 86400 < yday (y + 1) := by assumption
      have hD : n / 86400 - yday y < ydays y := by have := yday_succ y; omega
      have hYl := ydays_le y
      go_loopw [3, 6] (fun d m wr => ∃ k : Nat, d = .int .i64 (n / 86400 - yday y - mstart y k) ∧ m = .int .i64 (k + 1) ∧ k < 12 ∧ mstart y k ≤ n / 86400 - yday y ∧ wr = w.alloc (.cells #[.int .i64 0, .int .i64 0, .int .i64 0, .int .i64 0, .int .i64 0, .int .i64 0] 81)) (fun _ m _ => (13 - intOf m).toNat)
      case atStart => exact ⟨0, by simp [mstart], by go_num, by omega, by simp [mstart]; omega, rfl⟩
      case round =>
        obtain ⟨k, rfl, rfl, hk, hms, rfl⟩ := hrel
        have hm1 := mdays_ge y (k + 1)
        have hm2 := mdays_le y (k + 1)
        have hms0 : 0 ≤ mstart y k := mstart_mono y (Nat.zero_le k)
        go_wp2_with (first
          | (go_at_call 60; refine (Tryz.monthDaysA _ _ _).mono ?_; rintro e w2 ⟨rfl, rfl⟩))
        · have hup : mdays y (k + 1) ≤ n / 86400 - yday y - mstart y k := by assumption
          have hk2 : k + 1 < 12 := by
            have hnext : mstart y (k + 1) = mstart y k + mdays y (k + 1) := rfl
            have h12 := mstart_year y
            by_cases h : k + 1 = 12
            · rw [h] at hnext; omega
            · omega
          go_roundw
          case rel => exact ⟨k + 1, congrArg (Value.int .i64) (show _ = n / 86400 - yday y - mstart y (k + 1) by have hnext : mstart y (k + 1) = mstart y k + mdays y (k + 1) := rfl; rw [hnext]; omega), by go_num, hk2, by have hnext : mstart y (k + 1) = mstart y k + mdays y (k + 1) := rfl; omega, by trivial⟩
          case measure => simp [intOf]; omega
        · have hend : n / 86400 - yday y - mstart y k < mdays y (k + 1) := by assumption
          have hisy : y = dY n := yearOf_is ⟨hy, hle, hgt⟩
          have hism : k = dM n := by
            unfold dM
            rw [← hisy]
            exact monthOf_is ⟨hk, hms, by show _ < mstart y k + mdays y (k + 1); omega⟩
          have hday : n / 86400 - yday y - mstart y k + 1 = dD n := by unfold dD; rw [← hisy, ← hism]
          refine bodyPost_ret (v := .agg #[.int .i64 y, .int .i64 (k + 1), .int .i64 (n / 86400 - yday y - mstart y k + 1), .int .i64 (n % 86400 / 3600), .int .i64 (n % 86400 % 3600 / 60), .int .i64 (n % 86400 % 60)]) (by simp [results, Tryz.results55, go_sem]) rfl ⟨by unfold hourP minP secP; rw [hday, hisy, hism], ?_⟩
          exact (Below.refl _ _).alloc (Nat.le_refl _) _

set_option maxRecDepth 20000 in
theorem Tryz.partsC (n : Int) (h0 : 0 ≤ n) (h1 : n ≤ 253402300799) (w : World) : Calls Tryz.prog 59 #[.int .i64 n] w fun e w' =>
    e = .returned (.agg #[.int .i64 (secP n), .int .i64 (minP n), .int .i64 (hourP n), .int .i64 (dD n), .int .i64 (dM n + 1), .int .i64 (dY n)]) ∧ Below w.heap.size w w' := by
  have e1 : n.tdiv 86400 = n / 86400 := Int.tdiv_eq_ediv_of_nonneg h0
  have e2 : n.tmod 60 = n % 60 := Int.tmod_eq_emod_of_nonneg h0
  have e3 : n.tdiv 60 = n / 60 := Int.tdiv_eq_ediv_of_nonneg h0
  have e4 : (n / 60).tmod 60 = n / 60 % 60 := Int.tmod_eq_emod_of_nonneg (by omega)
  have e5 : n.tdiv 3600 = n / 3600 := Int.tdiv_eq_ediv_of_nonneg h0
  have e6 : (n / 3600).tmod 24 = n / 3600 % 24 := Int.tmod_eq_emod_of_nonneg (by omega)
  go_enter Tryz.func59, Tryz.ntmps59
  go_wp2_with fail
  go_loopw [3, 4] (fun d m wr => ∃ y : Int, d = .int .i64 (n / 86400 - yday y) ∧ m = .int .i64 y ∧ 1970 ≤ y ∧ yday y ≤ n / 86400 ∧ wr = w.alloc (.cells #[.int .i64 0, .int .i64 0, .int .i64 0, .int .i64 0, .int .i64 0, .int .i64 0] 81)) (fun d _ _ => (intOf d).toNat)
  case atStart => exact ⟨1970, by rw [yday_first]; go_num, rfl, by omega, by rw [yday_first]; omega, by trivial⟩
  case round =>
    obtain ⟨y, rfl, rfl, hy, hle, rfl⟩ := hrel
    have hlow := year_low hy
    have hY1 := ydays_ge y
    have hY2 := ydays_le y
    go_wp2_with (first
      | (go_at_call 63; refine (Tryz.yearDaysC _ _).mono ?_; rintro e w2 ⟨rfl, rfl⟩))
    · have hlt : ydays y ≤ n / 86400 - yday y := by assumption
      go_roundw
      case rel => exact ⟨y + 1, congrArg (Value.int .i64) (show _ = n / 86400 - yday (y + 1) by have := yday_succ y; omega), rfl, by omega, by have := yday_succ y; omega, by trivial⟩
      case measure => simp [intOf]; omega
    · have hD : n / 86400 - yday y < ydays y := by assumption
      go_loopw [3, 5] (fun d m wr => ∃ k : Nat, d = .int .i64 (n / 86400 - yday y - mstart y k) ∧ m = .int .i64 (k + 1) ∧ k < 12 ∧ mstart y k ≤ n / 86400 - yday y ∧ wr = w.alloc (.cells #[.int .i64 0, .int .i64 0, .int .i64 0, .int .i64 0, .int .i64 0, .int .i64 0] 81)) (fun _ m _ => (13 - intOf m).toNat)
      case atStart => exact ⟨0, by simp [mstart], by go_num, by omega, by simp [mstart]; omega, by trivial⟩
      case round =>
        obtain ⟨k, rfl, rfl, hk, hms, rfl⟩ := hrel
        have hm1 := mdays_ge y (k + 1)
        have hm2 := mdays_le y (k + 1)
        have hms0 : 0 ≤ mstart y k := mstart_mono y (Nat.zero_le k)
        go_wp2_with (first
          | (go_at_call 62; refine (Tryz.monthDaysC _ _ _).mono ?_; rintro e w2 ⟨rfl, rfl⟩))
        · have hup : mdays y (k + 1) ≤ n / 86400 - yday y - mstart y k := by assumption
          have hk2 : k + 1 < 12 := by
            have hnext : mstart y (k + 1) = mstart y k + mdays y (k + 1) := rfl
            have h12 := mstart_year y
            by_cases h : k + 1 = 12
            · rw [h] at hnext; omega
            · omega
          go_roundw
          case rel => exact ⟨k + 1, congrArg (Value.int .i64) (show _ = n / 86400 - yday y - mstart y (k + 1) by have hnext : mstart y (k + 1) = mstart y k + mdays y (k + 1) := rfl; rw [hnext]; omega), by go_num, hk2, by have hnext : mstart y (k + 1) = mstart y k + mdays y (k + 1) := rfl; omega, by trivial⟩
          case measure => simp [intOf]; omega
        · have hend : n / 86400 - yday y - mstart y k < mdays y (k + 1) := by assumption
          have hisy : y = dY n := yearOf_is ⟨hy, hle, by have := yday_succ y; omega⟩
          have hism : k = dM n := by
            unfold dM
            rw [← hisy]
            exact monthOf_is ⟨hk, hms, by show _ < mstart y k + mdays y (k + 1); omega⟩
          have hday : n / 86400 - yday y - mstart y k + 1 = dD n := by unfold dD; rw [← hisy, ← hism]
          refine bodyPost_ret (v := .agg #[.int .i64 (n % 60), .int .i64 (n / 60 % 60), .int .i64 (n / 3600 % 24), .int .i64 (n / 86400 - yday y - mstart y k + 1), .int .i64 (k + 1), .int .i64 y]) (by simp [results, Tryz.results59, go_sem]) rfl ⟨?_, ?_⟩
          · unfold hourP minP secP
            rw [hday, hisy, hism, show n % 86400 % 60 = n % 60 by omega, show n % 86400 % 3600 / 60 = n / 60 % 60 by omega, show n % 86400 / 3600 = n / 3600 % 24 by omega]
          · exact (Below.refl _ _).alloc (Nat.le_refl _) _

end Go.Proofs
