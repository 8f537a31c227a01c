/- The plain law of SchemaOrders: which tables are reached, a table that waits for no other is always there. No program in sight. -/
import Derived.WalkKit
namespace Go.Orders

abbrev Mat := Nat → Nat → Bool

/-- Foreign keys: of each table the tables that it refers to. -/
def targets (gs : List (List Nat)) (i : Nat) : List Nat := gs.getD i []

def adj (gs : List (List Nat)) : Mat := fun i j => (targets gs i).contains j

def stepW (M : Mat) (k : Nat) : Mat := fun i j => M i j || (M i k && M k j)

def warsh (M : Mat) : Nat → Mat
  | 0 => M
  | k + 1 => stepW (warsh M k) k

theorem warsh_le (M : Mat) (i j : Nat) (h : M i j = true) : ∀ k, warsh M k i j = true
  | 0 => h
  | k + 1 => by
    show (warsh M k i j || _) = true
    rw [warsh_le M i j h k]
    rfl

theorem warsh_trans (M : Mat) : ∀ (k m i j : Nat), m < k → warsh M k i m = true → warsh M k m j = true → warsh M k i j = true := by
  intro k
  induction k with
  | zero => intro m i j h; cases h
  | succ k ih =>
    intro m i j hm h1 h2
    have s1 : (warsh M k i m || (warsh M k i k && warsh M k k m)) = true := h1
    have s2 : (warsh M k m j || (warsh M k m k && warsh M k k j)) = true := h2
    show (warsh M k i j || (warsh M k i k && warsh M k k j)) = true
    rw [Bool.or_eq_true, Bool.and_eq_true] at s1 s2 ⊢
    by_cases e : m = k
    · subst e
      right
      exact ⟨s1.elim (fun h => h) (·.1), s2.elim (fun h => h) (·.2)⟩
    · have hlt : m < k := by omega
      rcases s1 with s1 | s1
      · rcases s2 with s2 | s2
        · exact .inl (ih m i j hlt s1 s2)
        · exact .inr ⟨ih m i k hlt s1 s2.1, s2.2⟩
      · rcases s2 with s2 | s2
        · exact .inr ⟨s1.1, ih m k j hlt s1.2 s2⟩
        · exact .inr ⟨s1.1, s2.2⟩

/-- In the midst of a round: what stands ahead of the place is new. -/
def mixed (M : Mat) (k i j : Nat) : Mat := fun a b => if a < i ∨ (a = i ∧ b < j) then stepW M k a b else M a b

theorem step_row (M : Mat) (k j : Nat) : stepW M k k j = M k j := by
  unfold stepW
  cases M k j <;> cases M k k <;> rfl
theorem step_col (M : Mat) (k i : Nat) : stepW M k i k = M i k := by
  unfold stepW
  cases M i k <;> cases M k k <;> rfl

theorem mixed_row (M : Mat) (k i j b : Nat) : mixed M k i j k b = M k b := by
  unfold mixed
  split
  · exact step_row M k b
  · rfl
theorem mixed_col (M : Mat) (k i j a : Nat) : mixed M k i j a k = M a k := by
  unfold mixed
  split
  · exact step_col M k a
  · rfl
theorem mixed_here (M : Mat) (k i j : Nat) : mixed M k i j i j = M i j := by
  unfold mixed
  rw [if_neg (by omega)]
theorem mixed_next (M : Mat) (k i j a b : Nat) : mixed M k i (j + 1) a b = if a = i ∧ b = j then stepW M k i j else mixed M k i j a b := by
  unfold mixed
  by_cases h : a = i ∧ b = j
  · obtain ⟨rfl, rfl⟩ := h
    rw [if_pos (.inr ⟨rfl, by omega⟩), if_pos ⟨rfl, rfl⟩]
  · rw [if_neg h]
    by_cases h1 : a < i ∨ (a = i ∧ b < j)
    · rw [if_pos h1, if_pos (by omega)]
    · rw [if_neg h1, if_neg (by omega)]
theorem mixed_zero (M : Mat) (k : Nat) : mixed M k 0 0 = M := by
  funext a b
  unfold mixed
  rw [if_neg (by omega)]

/-- Is it in a circle? -/
def circ (R : Mat) (i j : Nat) : Bool := !(i == j) && (R i j && R j i)

def circles (R : Mat) (n : Nat) : List Nat := (List.range n).filter fun i => (List.range n).any (circ R i)

def waits (gs : List (List Nat)) (R : Mat) (st : Nat → Bool) (i : Nat) : Bool := (targets gs i).any fun j => !(j == i) && (!st j && !circ R i j)

def nextT (gs : List (List Nat)) (R : Mat) (n : Nat) (st : Nat → Bool) : Option Nat := (List.range n).find? fun i => !st i && !waits gs R st i

/-- How many are reached, with itself. -/
def rank (R : Mat) (n i : Nat) : Nat := ((List.range n).filter fun j => R i j || i == j).length

theorem rank_lt {R : Mat} {n i j : Nat} (htr : ∀ m a b, m < n → R a m = true → R m b = true → R a b = true) (hi : i < n) (hj : j < n) (hne : j ≠ i) (h1 : R i j = true) (h2 : R j i = false) : rank R n j < rank R n i := by
  unfold rank
  have : ((List.range n).filter fun x => R j x || j == x) = ((List.range n).filter fun x => R i x || i == x).filter fun x => R j x || j == x := by
    rw [List.filter_filter]
    refine List.filter_congr fun x _ => ?_
    cases h : (R j x || j == x) with
    | false => rfl
    | true =>
      rw [Bool.or_eq_true] at h
      have : R i x = true := by
        rcases h with h | h
        · exact htr j i x hj h1 h
        · rw [← beq_iff_eq.mp h]; exact h1
      rw [this]
      rfl
  rw [this, List.length_filter_lt_length_iff_exists]
  refine ⟨i, List.mem_filter.mpr ⟨List.mem_range.mpr hi, by simp⟩, ?_⟩
  rw [h2]
  simp [hne]

/-- Someone waits for no other. -/
theorem next_some {gs : List (List Nat)} {R : Mat} {n : Nat} {st : Nat → Bool} (htr : ∀ m a b, m < n → R a m = true → R m b = true → R a b = true) (hadj : ∀ i j, j ∈ targets gs i → R i j = true) (hlt : ∀ i, ∀ j ∈ targets gs i, j < n) :
    ∀ (r i : Nat), rank R n i = r → i < n → st i = false → ∃ k, nextT gs R n st = some k := by
  intro r
  induction r using Nat.strongRecOn with
  | _ r ih =>
    intro i hr hi hs
    cases hw : waits gs R st i with
    | false =>
      have : (nextT gs R n st).isSome = true := by
        unfold nextT
        rw [List.find?_isSome]
        exact ⟨i, List.mem_range.mpr hi, by rw [hs, hw]; rfl⟩
      exact Option.isSome_iff_exists.mp this
    | true =>
      unfold waits at hw
      rw [List.any_eq_true] at hw
      obtain ⟨j, hj, hc⟩ := hw
      simp only [Bool.and_eq_true, Bool.not_eq_true', beq_eq_false_iff_ne, ne_eq] at hc
      obtain ⟨h1, h2, h3⟩ := hc
      have hRij := hadj i j hj
      have hRji : R j i = false := by
        unfold circ at h3
        have : (i == j) = false := beq_eq_false_iff_ne.mpr fun e => h1 e.symm
        rw [this, hRij] at h3
        simpa using h3
      have hjn := hlt i j hj
      exact ih (rank R n j) (hr ▸ rank_lt htr hi hjn h1 hRij hRji) j rfl hjn h2

def has (l : List Nat) (i : Nat) : Bool := l.contains i

/-- The order, its first tables. -/
def orderN (gs : List (List Nat)) (R : Mat) (n : Nat) : Nat → List Nat
  | 0 => []
  | m + 1 => match nextT gs R n (has (orderN gs R n m)) with
    | some i => orderN gs R n m ++ [i]
    | none => orderN gs R n m

theorem exists_fresh : ∀ (n : Nat) (l : List Nat), l.length < n → ∃ i, i < n ∧ l.contains i = false := by
  intro n l hl
  refine Classical.byContradiction fun hno => ?_
  have hall : ∀ i ∈ List.range n, i ∈ l := fun i hi => by
    cases hc : l.contains i with
    | true => simpa using hc
    | false => exact absurd ⟨i, List.mem_range.mp hi, hc⟩ hno
  have := List.Nodup.length_le_of_subset (List.nodup_range (n := n)) hall
  simp at this
  omega

structure Right (gs : List (List Nat)) (R : Mat) (n : Nat) : Prop where
  tr : ∀ m a b, m < n → R a m = true → R m b = true → R a b = true
  adj : ∀ i j, j ∈ targets gs i → R i j = true
  lt : ∀ i, ∀ j ∈ targets gs i, j < n

theorem order_next {gs : List (List Nat)} {R : Mat} {n : Nat} (hR : Right gs R n) {l : List Nat} (hl : l.length < n) : ∃ i, nextT gs R n (has l) = some i := by
  obtain ⟨i, h1, h2⟩ := exists_fresh n l hl
  exact next_some hR.tr hR.adj hR.lt _ i rfl h1 h2

theorem next_spec {gs : List (List Nat)} {R : Mat} {n i : Nat} {st : Nat → Bool} (h : nextT gs R n st = some i) : i < n ∧ st i = false ∧ waits gs R st i = false ∧ ∀ j, j < i → st j = true ∨ waits gs R st j = true := by
  unfold nextT at h
  have h1 := List.mem_of_find?_eq_some h
  have h2 := List.find?_some h
  simp only [Bool.and_eq_true, Bool.not_eq_true'] at h2
  refine ⟨List.mem_range.mp h1, h2.1, h2.2, fun j hj => ?_⟩
  rw [List.find?_range_eq_some] at h
  have := h.2.2 j hj
  cases hs : st j with
  | true => exact .inl rfl
  | false => right; simpa [hs] using this

theorem order_len {gs : List (List Nat)} {R : Mat} {n : Nat} (hR : Right gs R n) : ∀ m, m ≤ n → (orderN gs R n m).length = m := by
  intro m
  induction m with
  | zero => intro _; rfl
  | succ m ih =>
    intro h
    have hl := ih (by omega)
    obtain ⟨i, hi⟩ := order_next hR (l := orderN gs R n m) (by omega)
    unfold orderN
    rw [hi]
    simp [hl]

def reach (gs : List (List Nat)) : Mat := warsh (adj gs) gs.length

theorem reach_right {gs : List (List Nat)} (h : ∀ g ∈ gs, ∀ j ∈ g, j < gs.length) : Right gs (reach gs) gs.length := by
  refine ⟨fun m a b hm h1 h2 => warsh_trans _ _ m a b hm h1 h2, fun i j hj => warsh_le _ i j (by unfold adj; simpa using hj) _, fun i j hj => ?_⟩
  unfold targets at hj
  rw [List.getD_eq_getElem?_getD] at hj
  cases hg : gs[i]? with
  | none => rw [hg] at hj; cases hj
  | some g =>
    rw [hg] at hj
    exact h g (List.mem_of_getElem? hg) j hj

end Go.Orders
