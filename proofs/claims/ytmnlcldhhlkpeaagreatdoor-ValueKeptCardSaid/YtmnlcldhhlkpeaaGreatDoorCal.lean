/- Of calendars: the year and the month of a number of days, by what they are, and that they are one. No condition. No program in sight. -/
import Derived.WalkKit
namespace Go.Proofs

def leapB (y : Int) : Bool := (y % 4 == 0 && y % 100 != 0) || y % 400 == 0
def mdays (y m : Int) : Int := if m == 2 then (if leapB y then 29 else 28) else if m == 4 || m == 6 || m == 9 || m == 11 then 30 else 31
def ydays (y : Int) : Int := if leapB y then 366 else 365
def yday (y : Int) : Int := 365 * (y - 1970) + (y - 1) / 4 - (y - 1) / 100 + (y - 1) / 400 - 477

theorem yday_first : yday 1970 = 0 := by decide

theorem ydays_ge (y : Int) : 365 ≤ ydays y := by unfold ydays; split <;> omega
theorem ydays_le (y : Int) : ydays y ≤ 366 := by unfold ydays; split <;> omega

theorem yday_succ (y : Int) : yday (y + 1) = yday y + ydays y := by
  unfold yday ydays leapB
  simp only [Bool.or_eq_true, Bool.and_eq_true, beq_iff_eq, bne_iff_ne, ne_eq]
  split <;> omega

theorem yday_up (y : Int) (k : Nat) : yday y + 365 * k ≤ yday (y + k) := by
  induction k with
  | zero => simp
  | succ k ih =>
    have h1 := yday_succ (y + k)
    have h2 := ydays_ge (y + k)
    have h3 : y + ((k + 1 : Nat) : Int) = y + k + 1 := by omega
    rw [h3]
    omega

theorem yday_mono {a b : Int} (h : a ≤ b) : yday a + 365 * (b - a) ≤ yday b := by
  have := yday_up a (b - a).toNat
  rw [show a + ((b - a).toNat : Int) = b by omega] at this
  omega

theorem yday_above {a b : Int} (h : a ≤ b) : yday b ≤ yday a + 366 * (b - a) := by
  have key : ∀ k : Nat, yday (a + k) ≤ yday a + 366 * k := by
    intro k
    induction k with
    | zero => simp
    | succ k ih =>
      have h1 := yday_succ (a + k)
      have h2 := ydays_le (a + k)
      have h3 : a + ((k + 1 : Nat) : Int) = a + k + 1 := by omega
      rw [h3]
      omega
  have := key (b - a).toNat
  rw [show a + ((b - a).toNat : Int) = b by omega] at this
  omega

def IsYear (d y : Int) : Prop := 1970 ≤ y ∧ yday y ≤ d ∧ d < yday (y + 1)

theorem isYear_one {d a b : Int} (ha : IsYear d a) (hb : IsYear d b) : a = b := by
  obtain ⟨_, a1, a2⟩ := ha
  obtain ⟨_, b1, b2⟩ := hb
  by_cases h : a < b
  · have := yday_mono (show a + 1 ≤ b by omega); omega
  · by_cases h : b < a
    · have := yday_mono (show b + 1 ≤ a by omega); omega
    · omega

open Classical in
noncomputable def yearOf (d : Int) : Int := if h : ∃ y, IsYear d y then Classical.choose h else 0

theorem yearOf_is {d y : Int} (h : IsYear d y) : y = yearOf d := by
  unfold yearOf
  rw [dif_pos ⟨y, h⟩]
  exact isYear_one h (Classical.choose_spec ⟨y, h⟩)

/-- The days of the first months of a year. -/
def mstart (y : Int) : Nat → Int
  | 0 => 0
  | k + 1 => mstart y k + mdays y (k + 1)

theorem mdays_ge (y m : Int) : 28 ≤ mdays y m := by unfold mdays; repeat' split <;> omega
theorem mdays_le (y m : Int) : mdays y m ≤ 31 := by unfold mdays; repeat' split <;> omega

theorem mstart_year (y : Int) : mstart y 12 = ydays y := by
  simp [mstart, mdays, ydays]
  split <;> rfl

theorem mstart_mono (y : Int) {a b : Nat} (h : a ≤ b) : mstart y a ≤ mstart y b := by
  induction b with
  | zero =>
    have : a = 0 := by omega
    subst this
    exact Int.le_refl _
  | succ b ih =>
    by_cases hab : a = b + 1
    · subst hab; exact Int.le_refl _
    · have := ih (by omega)
      have := mdays_ge y (b + 1)
      show _ ≤ mstart y b + mdays y (b + 1)
      omega

/-- Month m + 1 of a year begins mstart y m days behind the year's first day. -/
def IsMonth (y d : Int) (m : Nat) : Prop := m < 12 ∧ mstart y m ≤ d ∧ d < mstart y (m + 1)

theorem isMonth_one {y d : Int} {a b : Nat} (ha : IsMonth y d a) (hb : IsMonth y d b) : a = b := by
  obtain ⟨_, a1, a2⟩ := ha
  obtain ⟨_, b1, b2⟩ := hb
  by_cases h : a < b
  · have := mstart_mono y (show a + 1 ≤ b by omega); omega
  · by_cases h : b < a
    · have := mstart_mono y (show b + 1 ≤ a by omega); omega
    · omega

open Classical in
noncomputable def monthOf (y d : Int) : Nat := if h : ∃ m, IsMonth y d m then Classical.choose h else 0

theorem monthOf_is {y d : Int} {m : Nat} (h : IsMonth y d m) : m = monthOf y d := by
  unfold monthOf
  rw [dif_pos ⟨m, h⟩]
  exact isMonth_one h (Classical.choose_spec ⟨m, h⟩)

end Go.Proofs
