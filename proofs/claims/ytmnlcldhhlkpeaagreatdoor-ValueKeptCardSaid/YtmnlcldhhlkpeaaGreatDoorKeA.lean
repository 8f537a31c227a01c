/- A finite map from numbers, as a tree by binary digits, and a list's element by its place: both by plain recursors, so that the kernel reckons them fast; and their laws. No condition. -/
import Derived.WalkKit
namespace Go.Ke

inductive Tr (α : Type) where
  | nil
  | node (l : Tr α) (v : Option α) (r : Tr α)

namespace Tr
variable {α : Type}

noncomputable def get (t : Tr α) : Nat → Option α :=
  Tr.rec (motive := fun _ => Nat → Option α) (fun _ => .none)
    (fun _ v _ ihl ihr k => @Nat.rec (fun _ => Option α) v (fun _ _ => @Bool.rec (fun _ => Option α) (ihr (Nat.sub (Nat.div k 2) 1)) (ihl (Nat.div k 2)) (Nat.beq (Nat.mod k 2) 1)) k) t

noncomputable def one (x : α) (f : Nat) : Nat → Tr α :=
  @Nat.rec (fun _ => Nat → Tr α) (fun _ => .node .nil (.some x) .nil)
    (fun _ ih k => @Nat.rec (fun _ => Tr α) (.node .nil (.some x) .nil) (fun _ _ => @Bool.rec (fun _ => Tr α) (.node .nil .none (ih (Nat.sub (Nat.div k 2) 1))) (.node (ih (Nat.div k 2)) .none .nil) (Nat.beq (Nat.mod k 2) 1)) k) f

noncomputable def set (x : α) (t : Tr α) : Nat → Tr α :=
  Tr.rec (motive := fun _ => Nat → Tr α) (fun k => Tr.one x k k)
    (fun l v r ihl ihr k => @Nat.rec (fun _ => Tr α) (.node l (.some x) r) (fun _ _ => @Bool.rec (fun _ => Tr α) (.node l v (ihr (Nat.sub (Nat.div k 2) 1))) (.node (ihl (Nat.div k 2)) v r) (Nat.beq (Nat.mod k 2) 1)) k) t

theorem get_nil (k : Nat) : (Tr.nil : Tr α).get k = none := rfl

theorem get_node (l : Tr α) (v : Option α) (r : Tr α) (k : Nat) :
    (Tr.node l v r).get k = if k = 0 then v else if k % 2 = 1 then l.get (k / 2) else r.get (k / 2 - 1) := by
  cases k with
  | zero => rfl
  | succ k =>
    rw [if_neg (by omega)]
    show @Bool.rec (fun _ => Option α) (r.get ((k + 1) / 2 - 1)) (l.get ((k + 1) / 2)) (Nat.beq ((k + 1) % 2) 1) = _
    by_cases h : (k + 1) % 2 = 1
    · rw [if_pos h, h]; rfl
    · have h0 : (k + 1) % 2 = 0 := by omega
      rw [if_neg h, h0]; rfl

theorem set_nil (x : α) (k : Nat) : (Tr.nil : Tr α).set x k = Tr.one x k k := rfl

theorem set_node (x : α) (l : Tr α) (v : Option α) (r : Tr α) (k : Nat) :
    (Tr.node l v r).set x k = if k = 0 then .node l (some x) r else if k % 2 = 1 then .node (l.set x (k / 2)) v r else .node l v (r.set x (k / 2 - 1)) := by
  cases k with
  | zero => rfl
  | succ k =>
    rw [if_neg (by omega)]
    show @Bool.rec (fun _ => Tr α) (.node l v (r.set x ((k + 1) / 2 - 1))) (.node (l.set x ((k + 1) / 2)) v r) (Nat.beq ((k + 1) % 2) 1) = _
    by_cases h : (k + 1) % 2 = 1
    · rw [if_pos h, h]; rfl
    · have h0 : (k + 1) % 2 = 0 := by omega
      rw [if_neg h, h0]; rfl

theorem one_zero (x : α) (f : Nat) : Tr.one x f 0 = .node .nil (some x) .nil := by cases f <;> rfl

theorem one_succ (x : α) (f k : Nat) (h : k ≠ 0) :
    Tr.one x (f + 1) k = if k % 2 = 1 then .node (Tr.one x f (k / 2)) none .nil else .node .nil none (Tr.one x f (k / 2 - 1)) := by
  cases k with
  | zero => exact absurd rfl h
  | succ k =>
    show @Bool.rec (fun _ => Tr α) (.node .nil none (Tr.one x f ((k + 1) / 2 - 1))) (.node (Tr.one x f ((k + 1) / 2)) none .nil) (Nat.beq ((k + 1) % 2) 1) = _
    by_cases h : (k + 1) % 2 = 1
    · rw [if_pos h, h]; rfl
    · have h0 : (k + 1) % 2 = 0 := by omega
      rw [if_neg h, h0]; rfl

theorem get_one (x : α) : ∀ (f k j : Nat), k ≤ f → (Tr.one x f k).get j = if j = k then some x else none := by
  intro f
  induction f with
  | zero =>
    intro k j hk
    obtain rfl : k = 0 := by omega
    rw [one_zero, get_node]
    split <;> simp_all [get_nil]
  | succ f ih =>
    intro k j hk
    by_cases h0 : k = 0
    · subst h0; rw [one_zero, get_node]
      split <;> simp_all [get_nil]
    · rw [one_succ _ _ _ h0]
      by_cases h : k % 2 = 1
      · rw [if_pos h, get_node]
        by_cases j0 : j = 0
        · rw [if_pos j0, if_neg (by omega)]
        · rw [if_neg j0]
          by_cases jo : j % 2 = 1
          · rw [if_pos jo, ih _ _ (by omega)]
            by_cases e : j = k
            · rw [if_pos e, if_pos (by rw [e])]
            · rw [if_neg e, if_neg (by omega)]
          · rw [if_neg jo, get_nil, if_neg (by intro e; subst e; exact jo h)]
      · rw [if_neg h, get_node]
        by_cases j0 : j = 0
        · rw [if_pos j0, if_neg (by omega)]
        · rw [if_neg j0]
          by_cases jo : j % 2 = 1
          · rw [if_pos jo, get_nil, if_neg (by intro e; subst e; exact h jo)]
          · rw [if_neg jo, ih _ _ (by omega)]
            by_cases e : j = k
            · rw [if_pos e, if_pos (by rw [e])]
            · rw [if_neg e, if_neg (by omega)]

theorem get_set (x : α) : ∀ (t : Tr α) (k j : Nat), (t.set x k).get j = if j = k then some x else t.get j := by
  intro t
  induction t with
  | nil =>
    intro k j
    rw [set_nil, get_one _ _ _ _ (Nat.le_refl _), get_nil]
  | node l v r ihl ihr =>
    intro k j
    rw [set_node]
    by_cases k0 : k = 0
    · rw [if_pos k0, get_node, get_node]
      by_cases j0 : j = 0
      · rw [if_pos j0, if_pos (show j = k by omega)]
      · rw [if_neg j0, if_neg j0, if_neg (show ¬ j = k by omega)]
    · rw [if_neg k0]
      by_cases h : k % 2 = 1
      · rw [if_pos h, get_node, get_node]
        by_cases j0 : j = 0
        · rw [if_pos j0, if_neg (by omega), if_pos j0]
        · rw [if_neg j0, if_neg j0]
          by_cases jo : j % 2 = 1
          · rw [if_pos jo, if_pos jo, ihl]
            by_cases e : j = k
            · rw [if_pos e, if_pos (by rw [e])]
            · rw [if_neg e, if_neg (by omega)]
          · rw [if_neg jo, if_neg jo, if_neg (by intro e; subst e; exact jo h)]
      · rw [if_neg h, get_node, get_node]
        by_cases j0 : j = 0
        · rw [if_pos j0, if_neg (by omega), if_pos j0]
        · rw [if_neg j0, if_neg j0]
          by_cases jo : j % 2 = 1
          · rw [if_pos jo, if_pos jo, if_neg (by intro e; subst e; exact h jo)]
          · rw [if_neg jo, if_neg jo, ihr]
            by_cases e : j = k
            · rw [if_pos e, if_pos (by rw [e])]
            · rw [if_neg e, if_neg (by omega)]

theorem get_set_self (x : α) (t : Tr α) (k : Nat) : (t.set x k).get k = some x := by rw [get_set, if_pos rfl]
theorem get_set_ne (x : α) (t : Tr α) {k j : Nat} (h : j ≠ k) : (t.set x k).get j = t.get j := by rw [get_set, if_neg h]
end Tr

/-- A list laid into a map from the place 'i' on. -/
noncomputable def fillTr {α : Type} (l : List α) : Nat → Tr α → Tr α :=
  @List.rec α (fun _ => Nat → Tr α → Tr α) (fun _ t => t) (fun x _ ih i t => ih (Nat.succ i) (t.set x i)) l

theorem fillTr_nil {α : Type} (i : Nat) (t : Tr α) : fillTr [] i t = t := rfl
theorem fillTr_cons {α : Type} (x : α) (l : List α) (i : Nat) (t : Tr α) : fillTr (x :: l) i t = fillTr l (i + 1) (t.set x i) := rfl

theorem get_fillTr {α : Type} : ∀ (l : List α) (i : Nat) (t : Tr α) (j : Nat),
    (fillTr l i t).get j = if i ≤ j ∧ j < i + l.length then l[j - i]? else t.get j := by
  intro l
  induction l with
  | nil => intro i t j; rw [fillTr_nil, if_neg (by simp)]
  | cons x l ih =>
    intro i t j
    rw [fillTr_cons, ih]
    by_cases h : i + 1 ≤ j ∧ j < i + 1 + l.length
    · rw [if_pos h, if_pos (by simp; omega)]
      obtain ⟨m, rfl⟩ : ∃ m, j = i + 1 + m := ⟨j - (i + 1), by omega⟩
      rw [show i + 1 + m - (i + 1) = m by omega, show i + 1 + m - i = m + 1 by omega]
      rfl
    · rw [if_neg h, Tr.get_set]
      by_cases e : j = i
      · subst e
        rw [if_pos rfl, if_pos (by simp)]
        simp
      · rw [if_neg e, if_neg (by simp at h ⊢; omega)]

/-- The cells of a map from the place 'i' on, 'n' of them: all must be there. -/
noncomputable def readTr {α : Type} (t : Tr α) (n : Nat) : Nat → Option (List α) :=
  @Nat.rec (fun _ => Nat → Option (List α)) (fun _ => .some [])
    (fun _ ih i => @Option.rec α (fun _ => Option (List α)) .none (fun x => @Option.rec (List α) (fun _ => Option (List α)) .none (fun l => .some (x :: l)) (ih (Nat.succ i))) (t.get i)) n

theorem readTr_zero {α : Type} (t : Tr α) (i : Nat) : readTr t 0 i = some [] := rfl

theorem readTr_spec {α : Type} (t : Tr α) : ∀ (n i : Nat) (l : List α), readTr t n i = some l → l.length = n ∧ ∀ j, j < n → ∀ x, l[j]? = some x → t.get (i + j) = some x := by
  intro n
  induction n with
  | zero => intro i l h; cases h; exact ⟨rfl, fun j hj => absurd hj (by omega)⟩
  | succ n ih =>
    intro i l h
    change @Option.rec α (fun _ => Option (List α)) .none (fun x => @Option.rec (List α) (fun _ => Option (List α)) .none (fun l => .some (x :: l)) (readTr t n (i + 1))) (t.get i) = some l at h
    cases hx : t.get i with
    | none => rw [hx] at h; cases h
    | some x =>
      rw [hx] at h
      change @Option.rec (List α) (fun _ => Option (List α)) .none (fun l => .some (x :: l)) (readTr t n (i + 1)) = some l at h
      cases hl : readTr t n (i + 1) with
      | none => rw [hl] at h; cases h
      | some l' =>
        rw [hl] at h
        cases h
        obtain ⟨h1, h2⟩ := ih _ _ hl
        refine ⟨by simp [h1], fun j hj y hy => ?_⟩
        cases j with
        | zero => simp at hy; subst hy; exact hx
        | succ j =>
          have := h2 j (by omega) y (by simpa using hy)
          rw [show i + (j + 1) = i + 1 + j by omega]; exact this

/-- A list's element by its place. -/
noncomputable def lget {α : Type} (l : List α) : Nat → Option α :=
  @List.rec α (fun _ => Nat → Option α) (fun _ => .none) (fun x _ ih i => @Nat.rec (fun _ => Option α) (.some x) (fun n _ => ih n) i) l

theorem lget_eq {α : Type} : ∀ (l : List α) (i : Nat), lget l i = l[i]? := by
  intro l
  induction l with
  | nil => intro i; rfl
  | cons x l ih =>
    intro i
    cases i with
    | zero => rfl
    | succ i => show lget l i = _; rw [ih]; simp

end Go.Ke
