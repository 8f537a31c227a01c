/- ValueLaws: the plain laws of sums, quotients, remainders and products. -/
import Derived.Test.YtmnlcldhhlkpeaaGreatDoorNum
namespace Go.Proofs
open Go.RowKit

theorem numV_s (k n : Int) : (numV k n).s = ⟨#[]⟩ := by
  unfold numV Val.plain
  split <;> rfl

theorem num2_fine (n : Int) : Val.fine ⟨2, n, ⟨#[]⟩⟩ = (decide (-999999999999999 ≤ n) && decide (n ≤ 999999999999999)) := by
  unfold Val.fine formB rangeB inB
  have h2 : (⟨#[]⟩ : ByteArray).size = 0 := rfl
  simp [h2]

theorem num2_in {n : Int} (h1 : -999999999999999 ≤ n) (h2 : n ≤ 999999999999999) : numV 2 n = ⟨2, n, ⟨#[]⟩⟩ := by
  unfold numV Val.plain
  rw [num2_fine]
  simp [h1, h2]

theorem num2_k {n : Int} (h : (numV 2 n).k = 2) : -999999999999999 ≤ n ∧ n ≤ 999999999999999 := by
  unfold numV Val.plain at h
  rw [num2_fine] at h
  split at h
  · rename_i hx
    simpa using hx
  · simp [Val.zero] at h

theorem divV_s (a b : Val) : (divV a b).s = ⟨#[]⟩ := by
  unfold divV
  split
  · rfl
  · exact numV_s _ _

theorem modV_s (a b : Val) : (modV a b).s = ⟨#[]⟩ := by
  unfold modV
  split
  · rfl
  · exact numV_s _ _

theorem mulV_s {a b m : Val} (h : MulV a b m) : m.s = ⟨#[]⟩ := by
  rcases h with rfl | rfl
  · rfl
  · exact numV_s _ _

theorem empty_size : (⟨#[]⟩ : ByteArray).size ≤ 9223372036854775807 := by decide

theorem divV_size (a b : Val) : (divV a b).s.size ≤ 9223372036854775807 := by
  rw [divV_s]
  exact empty_size

theorem modV_size (a b : Val) : (modV a b).s.size ≤ 9223372036854775807 := by
  rw [modV_s]
  exact empty_size

theorem mulV_size {a b m : Val} (h : MulV a b m) : m.s.size ≤ 9223372036854775807 := by
  rw [mulV_s h]
  exact empty_size

theorem intB_plain {a : Val} (h : intB a = true) : a.plain = a := by
  unfold intB Val.plain at h
  unfold Val.plain
  cases hf : a.fine with
  | false => rw [hf] at h; simp [Val.zero] at h
  | true => rfl

theorem empty_of {s : ByteArray} (h : s.toList = []) : s = ⟨#[]⟩ := by
  rw [ByteArray.toList_eq] at h
  cases s with
  | mk d =>
    have : d = #[] := by simpa using h
    rw [this]

theorem int_eq {a : Val} (h : intB a = true) : a = ⟨2, a.n, ⟨#[]⟩⟩ := by
  obtain ⟨h1, _, _, h4⟩ := int_fine h
  obtain ⟨k, n, s⟩ := a
  simp only at h1 h4
  rw [h1, empty_of h4]

theorem addV_comm {a b : Val} (h : a.k = b.k) : addV a b = addV b a := by
  unfold addV
  cases ha : intB a <;> cases hb : intB b
  · simp
  · obtain ⟨hb1, _⟩ := int_fine hb
    have : a.plain.k ≠ 4 := by
      intro h4
      unfold Val.plain at h4
      split at h4
      · omega
      · simp [Val.zero] at h4
    simp [this]
  · obtain ⟨ha1, _⟩ := int_fine ha
    have : b.plain.k ≠ 4 := by
      intro h4
      unfold Val.plain at h4
      split at h4
      · omega
      · simp [Val.zero] at h4
    simp [this]
  · simp [h, Int.add_comm]

theorem floor_back {a b : Int} : b * floorI a b = a - a.tmod b ∨ b * floorI a b = a - a.tmod b - b := by
  have h := Int.mul_tdiv_add_tmod a b
  unfold floorI
  split
  · right
    rw [Int.mul_sub]
    omega
  · left
    omega

theorem div_mod_back {a b q r m : Val} (hq : q = divV a b ∧ r = modV a b) (hq2 : q.k = 2) (hr2 : r.k = 2) (hm : MulV q b m) (hm2 : m.k = 2) : addV m r = a := by
  obtain ⟨hq, hr⟩ := hq
  unfold divV at hq
  unfold modV at hr
  split at hq
  · subst hq; simp [Val.zero] at hq2
  rename_i hc
  rw [if_neg hc] at hr
  simp only [Bool.or_eq_true, Bool.not_eq_true', Bool.and_eq_false_iff, beq_iff_eq] at hc
  have ha : intB a = true := by cases h : intB a <;> simp_all
  have hb : intB b = true := by cases h : intB b <;> simp_all
  obtain ⟨_, a1, a2, _⟩ := int_fine ha
  obtain ⟨_, b1, b2, _⟩ := int_fine hb
  have hf := floor_back (a := a.n) (b := b.n)
  have hmod := tmod_small (b := b.n) a1 a2
  have hbound : -3000000000000000 ≤ b.n * floorI a.n b.n ∧ b.n * floorI a.n b.n ≤ 3000000000000000 := by
    rcases hf with h | h <;> rw [h] <;> omega
  have w1 : wrap64 (b.n * floorI a.n b.n) = b.n * floorI a.n b.n := by unfold wrap64; omega
  have w2 : wrap64 (a.n - b.n * floorI a.n b.n) = a.n - b.n * floorI a.n b.n := by unfold wrap64; omega
  rw [w1, w2] at hr
  have hq3 := hq
  have q1 := num2_k (n := floorI a.n b.n) (by rw [← hq]; exact hq2)
  rw [num2_in q1.1 q1.2] at hq
  have r1 := num2_k (n := a.n - b.n * floorI a.n b.n) (by rw [← hr]; exact hr2)
  rw [num2_in r1.1 r1.2] at hr
  rcases hm with rfl | hm
  · simp [Val.zero] at hm2
  have hqn : q.n = floorI a.n b.n := by rw [hq]
  rw [hqn, Int.mul_comm, w1] at hm
  have m1 := num2_k (n := b.n * floorI a.n b.n) (by rw [← hm]; exact hm2)
  rw [num2_in m1.1 m1.2] at hm
  have hrI : intB r = true := by
    unfold intB
    have : r.plain = r := by
      rw [hr]
      exact num2_in r1.1 r1.2
    rw [this, hr2]
    rfl
  have hmI : intB m = true := by
    unfold intB
    have : m.plain = m := by
      rw [hm]
      exact num2_in m1.1 m1.2
    rw [this, hm2]
    rfl
  unfold addV
  rw [hrI, hmI]
  simp only [Bool.not_true, Bool.false_and, Bool.or_self, Bool.false_eq_true, if_false]
  have hmn : m.n = b.n * floorI a.n b.n := by rw [hm]
  have hrn : r.n = a.n - b.n * floorI a.n b.n := by rw [hr]
  have hsum : wrap64 (m.n + r.n) = a.n := by
    rw [hmn, hrn]
    unfold wrap64
    omega
  rw [hm2, hsum, num2_in a1 a2]
  exact (int_eq ha).symm

end Go.Proofs
