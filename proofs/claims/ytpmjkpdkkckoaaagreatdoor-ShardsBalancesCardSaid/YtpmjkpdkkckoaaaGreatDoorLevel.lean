/- Levelling loads over shards, in plain words: sums, the fullest and the emptiest shard, the next move, its end. No condition. -/
import Derived.Lib.Slices
namespace Go.Level

/-- What lies at place s of the first n. -/
def sumN (L A : Nat → Int) (s : Int) : Nat → Int
  | 0 => 0
  | n + 1 => sumN L A s n + if A n = s then L n else 0

def hiN (S : Nat → Int) : Nat → Nat
  | 0 => 0
  | m + 1 => if S (hiN S m) < S m then m else hiN S m

def loN (S : Nat → Int) : Nat → Nat
  | 0 => 0
  | m + 1 => if S m < S (loN S m) then m else loN S m

theorem hi_lt (S : Nat → Int) : ∀ m, 0 < m → hiN S m < m
  | 1, _ => by simp [hiN]
  | m + 2, _ => by
    have := hi_lt S (m + 1) (by omega)
    rw [hiN]
    split <;> omega

theorem lo_lt (S : Nat → Int) : ∀ m, 0 < m → loN S m < m
  | 1, _ => by simp [loN]
  | m + 2, _ => by
    have := lo_lt S (m + 1) (by omega)
    rw [loN]
    split <;> omega

theorem hi_top (S : Nat → Int) : ∀ m j, j < m → S j ≤ S (hiN S m) ∧ (j < hiN S m → S j < S (hiN S m))
  | m + 1, j, hj => by
    rw [hiN]
    by_cases e : j = m
    · subst e
      split
      · omega
      · have := hi_lt S j
        refine ⟨by omega, fun h => ?_⟩
        by_cases h0 : 0 < j
        · have := this h0; omega
        · have : j = 0 := by omega
          subst this
          simp [hiN] at h
    · obtain ⟨h1, h2⟩ := hi_top S m j (by omega)
      split
      · exact ⟨by omega, fun _ => by omega⟩
      · exact ⟨h1, h2⟩

theorem lo_top (S : Nat → Int) : ∀ m j, j < m → S (loN S m) ≤ S j ∧ (j < loN S m → S (loN S m) < S j)
  | m + 1, j, hj => by
    rw [loN]
    by_cases e : j = m
    · subst e
      split
      · omega
      · have := lo_lt S j
        refine ⟨by omega, fun h => ?_⟩
        by_cases h0 : 0 < j
        · have := this h0; omega
        · have : j = 0 := by omega
          subst this
          simp [loN] at h
    · obtain ⟨h1, h2⟩ := lo_top S m j (by omega)
      split
      · exact ⟨by omega, fun _ => by omega⟩
      · exact ⟨h1, h2⟩

theorem hi_congr {S T : Nat → Int} : ∀ m, (∀ j, j < m → S j = T j) → 0 < m → hiN S m = hiN T m
  | 1, h, _ => by
    simp [hiN]
  | m + 2, h, _ => by
    have ih := hi_congr (m + 1) (fun j hj => h j (by omega)) (by omega)
    rw [hiN.eq_2 S (m + 1), hiN.eq_2 T (m + 1), ih, h (m + 1) (by omega), h _ (by have := hi_lt T (m + 1) (by omega); omega)]

theorem lo_congr {S T : Nat → Int} : ∀ m, (∀ j, j < m → S j = T j) → 0 < m → loN S m = loN T m
  | 1, h, _ => by
    simp [loN]
  | m + 2, h, _ => by
    have ih := lo_congr (m + 1) (fun j hj => h j (by omega)) (by omega)
    rw [loN.eq_2 S (m + 1), loN.eq_2 T (m + 1), ih, h (m + 1) (by omega), h _ (by have := lo_lt T (m + 1) (by omega); omega)]

def listOf (S : Nat → Int) (k : Nat) : List Int := (List.range k).map S

theorem listOf_len (S : Nat → Int) (k : Nat) : (listOf S k).length = k := by simp [listOf]
theorem listOf_get (S : Nat → Int) {k j : Nat} (h : j < k) : (listOf S k).getD j 0 = S j := by simp [listOf, List.getD, h]

theorem maxOf_eq (S : Nat → Int) (k : Nat) : ∀ m, 0 < m → m ≤ k → Lib.maxOf ((listOf S k).take m) = S (hiN S m)
  | 1, _, h => by
    rw [Lib.maxOf_one, listOf_get S (by omega), hiN]
    split <;> rfl
  | m + 2, _, h => by
    have ih := maxOf_eq S k (m + 1) (by omega) (by omega)
    rw [Lib.maxOf_step _ (m + 1) (by omega) (by rw [listOf_len]; omega), ih, listOf_get S (by omega), hiN.eq_2 S (m + 1)]
    split <;> omega

theorem minOf_eq (S : Nat → Int) (k : Nat) : ∀ m, 0 < m → m ≤ k → Lib.minOf ((listOf S k).take m) = S (loN S m)
  | 1, _, h => by
    rw [Lib.minOf_one, listOf_get S (by omega), loN]
    split <;> rfl
  | m + 2, _, h => by
    have ih := minOf_eq S k (m + 1) (by omega) (by omega)
    rw [Lib.minOf_step _ (m + 1) (by omega) (by rw [listOf_len]; omega), ih, listOf_get S (by omega), loN.eq_2 S (m + 1)]
    split <;> omega

theorem idx_hi (S : Nat → Int) (k : Nat) (hk : 0 < k) : Lib.idxOf ((listOf S k).take k) (S (hiN S k)) = hiN S k := by
  have h := hi_lt S k hk
  refine Lib.idxOf_hit _ k _ _ h (by rw [listOf_len]; omega) (listOf_get S h) fun j hj => ?_
  rw [listOf_get S (by omega)]
  have := (hi_top S k j (by omega)).2 hj
  omega

theorem idx_lo (S : Nat → Int) (k : Nat) (hk : 0 < k) : Lib.idxOf ((listOf S k).take k) (S (loN S k)) = loN S k := by
  have h := lo_lt S k hk
  refine Lib.idxOf_hit _ k _ _ h (by rw [listOf_len]; omega) (listOf_get S h) fun j hj => ?_
  rw [listOf_get S (by omega)]
  have := (lo_top S k j (by omega)).2 hj
  omega

/-! ### The next move -/

/-- The best load to move from shard f (its sum x) to shard t (its sum y), the first m looked at; behind it the height it leaves. -/
def bestN (L A : Nat → Int) (f t x y : Int) : Nat → Int × Int
  | 0 => (-1, x)
  | m + 1 => let r := bestN L A f t x y m; if A m = f ∧ f ≠ t ∧ max (x - L m) (y + L m) < r.2 then (m, max (x - L m) (y + L m)) else r

theorem best_facts (L A : Nat → Int) (f t x y : Int) : ∀ m, (bestN L A f t x y m).2 ≤ x ∧ ((bestN L A f t x y m).1 = -1 ∨ ∃ i : Nat, i < m ∧ (bestN L A f t x y m).1 = i ∧ A i = f ∧ f ≠ t ∧ x - L i < x ∧ y + L i < x)
  | 0 => ⟨Int.le_refl _, .inl rfl⟩
  | m + 1 => by
    obtain ⟨h1, h2⟩ := best_facts L A f t x y m
    rw [bestN]
    split
    · rename_i h
      exact ⟨by dsimp only; omega, .inr ⟨m, by omega, rfl, h.1, h.2.1, by omega, by omega⟩⟩
    · refine ⟨h1, h2.imp id ?_⟩
      rintro ⟨i, hi, h3⟩
      exact ⟨i, by omega, h3⟩

def move (A : Nat → Int) (i : Nat) (t : Int) : Nat → Int := fun j => if j = i then t else A j

theorem sum_move (L A : Nat → Int) {i : Nat} {f t : Int} (hA : A i = f) (hft : f ≠ t) (s : Int) : ∀ n, sumN L (move A i t) s n = sumN L A s n + if i < n then (if s = t then L i else if s = f then - L i else 0) else 0
  | 0 => by simp [sumN]
  | n + 1 => by
    rw [sumN, sumN, sum_move L A hA hft s n]
    have e0 : move A i t n = if n = i then t else A n := rfl
    rw [e0]
    by_cases e : n = i
    · subst e
      have q1 : ¬ n < n := by omega
      have q2 : n < n + 1 := by omega
      simp only [↓reduceIte, q1, q2, hA]
      by_cases h1 : t = s
      · subst h1
        simp only [↓reduceIte, hft]
        all_goals omega
      · have h1' : ¬ s = t := fun h => h1 h.symm
        by_cases h2 : f = s
        · subst h2
          simp only [↓reduceIte, h1, h1']
          all_goals omega
        · have h2' : ¬ s = f := fun h => h2 h.symm
          simp only [↓reduceIte, h1, h1', h2, h2']
          all_goals omega
    · rw [if_neg e]
      by_cases h : i < n
      · have q : i < n + 1 := by omega
        simp only [↓reduceIte, h, q]
        all_goals omega
      · have q : ¬ i < n + 1 := by omega
        simp only [↓reduceIte, h, q]
        all_goals omega

theorem sum_congr {L A B : Nat → Int} {s : Int} : ∀ {n}, (∀ j, j < n → A j = B j) → sumN L A s n = sumN L B s n
  | 0, _ => rfl
  | n + 1, h => by
    rw [sumN, sumN, h n (by omega), sum_congr (n := n) fun j hj => h j (by omega)]

theorem sum_bounds {L : Nat → Int} (A : Nat → Int) (s : Int) {M : Int} : ∀ {n : Nat}, (∀ j, j < n → 0 ≤ L j ∧ L j ≤ M) → 0 ≤ sumN L A s n ∧ sumN L A s n ≤ M * n
  | 0, _ => by simp [sumN]
  | n + 1, h => by
    obtain ⟨h1, h2⟩ := sum_bounds A s (n := n) fun j hj => h j (by omega)
    have h3 := h n (by omega)
    rw [sumN]
    have : M * ((n + 1 : Nat) : Int) = M * n + M := by rw [Int.natCast_succ, Int.mul_add, Int.mul_one]
    split <;> omega

/-! ### The measure -/

def sqN (S : Nat → Int) : Nat → Int
  | 0 => 0
  | m + 1 => sqN S m + S m * S m

theorem sq_nonneg (S : Nat → Int) : ∀ m, 0 ≤ sqN S m
  | 0 => Int.le_refl _
  | m + 1 => by
    have h1 := sq_nonneg S m
    have h2 : 0 ≤ S m * S m := by
      rcases Int.le_total 0 (S m) with h | h
      · exact Int.mul_nonneg h h
      · exact Int.mul_nonneg_of_nonpos_of_nonpos h h
    rw [sqN]
    omega

theorem sq_congr {S T : Nat → Int} : ∀ m, (∀ j, j < m → S j = T j) → sqN S m = sqN T m
  | 0, _ => rfl
  | m + 1, h => by rw [sqN, sqN, sq_congr m fun j hj => h j (by omega), h m (by omega)]

theorem sq_upd (S : Nat → Int) (i : Nat) (x : Int) : ∀ m, sqN (fun j => if j = i then x else S j) m = sqN S m + if i < m then x * x - S i * S i else 0
  | 0 => by simp [sqN]
  | m + 1 => by
    rw [sqN, sqN, sq_upd S i x m]
    by_cases e : m = i
    · subst e
      rw [if_pos rfl, if_neg (by omega), if_pos (by omega)]
      omega
    · rw [if_neg e]
      by_cases h : i < m
      · rw [if_pos h, if_pos (by omega)]
        omega
      · rw [if_neg h, if_neg (by omega)]
        omega

theorem sq_less (S T : Nat → Int) {k f t : Nat} (hf : f < k) (ht : t < k) (hft : f ≠ t) {d : Int} (hd : 0 < d) (hlt : S t + d < S f) (hTf : T f = S f - d) (hTt : T t = S t + d) (hT : ∀ j, j < k → j ≠ f → j ≠ t → T j = S j) : sqN T k < sqN S k := by
  have e : sqN T k = sqN (fun j => if j = t then S t + d else (fun j => if j = f then S f - d else S j) j) k := sq_congr k fun j hj => by
    by_cases h1 : j = t
    · subst h1; rw [if_pos rfl, hTt]
    · rw [if_neg h1]
      by_cases h2 : j = f
      · subst h2; simp [hTf]
      · simp [h2, hT j hj h2 h1]
  rw [e, sq_upd, sq_upd, if_pos hf, if_pos ht, if_neg (Ne.symm hft)]
  have e1 : (S f - d) * (S f - d) = S f * S f - 2 * (d * S f) + d * d := by
    rw [Int.sub_mul, Int.mul_sub, Int.mul_sub, Int.mul_comm (S f) d]
    omega
  have e2 : (S t + d) * (S t + d) = S t * S t + 2 * (d * S t) + d * d := by
    rw [Int.add_mul, Int.mul_add, Int.mul_add, Int.mul_comm (S t) d]
    omega
  have e3 : d * (S t + d) < d * S f := Int.mul_lt_mul_of_pos_left hlt hd
  rw [Int.mul_add] at e3
  omega

/-! ### The loop -/

/-- The sums of a placing. -/
def sums (L A : Nat → Int) (n : Nat) : Nat → Int := fun s => sumN L A s n

/-- The next move of a placing. -/
def nextM (L A : Nat → Int) (n k : Nat) : Int × Int := bestN L A (hiN (sums L A n) k) (loN (sums L A n) k) (sums L A n (hiN (sums L A n) k)) (sums L A n (loN (sums L A n) k)) n

/-- From A the moves lead to B. -/
inductive Ends (L : Nat → Int) (n k : Nat) : (Nat → Int) → (Nat → Int) → Prop
  | done {A : Nat → Int} (h : (nextM L A n k).1 < 0) : Ends L n k A A
  | step {A B : Nat → Int} {i : Nat} (h : (nextM L A n k).1 = i) (hb : Ends L n k (move A i (loN (sums L A n) k)) B) : Ends L n k A B

theorem Ends.same {L : Nat → Int} {n k : Nat} {A B C : Nat → Int} (h : Ends L n k A B) (h2 : Ends L n k A C) : B = C := by
  induction h with
  | done h =>
    cases h2 with
    | done _ => rfl
    | step h1 _ => omega
  | step h hb ih =>
    cases h2 with
    | done h1 => omega
    | step h1 hb2 =>
      have : (_ : Nat) = _ := Int.ofNat.inj (h.symm.trans h1)
      subst this
      exact ih hb2

theorem next_less (L A : Nat → Int) {n k i : Nat} (hk : 0 < k) (h : (nextM L A n k).1 = i) : i < n ∧ A i = hiN (sums L A n) k ∧ (hiN (sums L A n) k) ≠ (loN (sums L A n) k) ∧ 0 < L i ∧ sqN (sums L (move A i (loN (sums L A n) k)) n) k < sqN (sums L A n) k := by
  have hf := hi_lt (sums L A n) k hk
  have ht := lo_lt (sums L A n) k hk
  obtain ⟨_, h2⟩ := best_facts L A (hiN (sums L A n) k) (loN (sums L A n) k) (sums L A n (hiN (sums L A n) k)) (sums L A n (loN (sums L A n) k)) n
  unfold nextM at h
  rw [h] at h2
  rcases h2 with h2 | ⟨j, hj, e, hA, hne, h3, h4⟩
  · omega
  · obtain rfl : i = j := by omega
    have hne' : hiN (sums L A n) k ≠ loN (sums L A n) k := fun h => hne (by rw [h])
    have hm : ∀ s : Nat, sums L (move A i (loN (sums L A n) k)) n s = sums L A n s + if i < n then (if (s : Int) = loN (sums L A n) k then L i else if (s : Int) = hiN (sums L A n) k then - L i else 0) else 0 := fun s => sum_move L A hA hne s n
    refine ⟨hj, hA, hne', by omega, ?_⟩
    refine sq_less (sums L A n) (sums L (move A i (loN (sums L A n) k)) n) hf ht hne' (d := L i) (by omega) h4 ?_ ?_ fun j _ h5 h6 => ?_
    · rw [hm, if_pos hj, if_neg hne, if_pos rfl]
      omega
    · rw [hm, if_pos hj, if_pos rfl]
    · rw [hm, if_pos hj, if_neg (by omega), if_neg (by omega)]
      omega

end Go.Level
