/- Of a row that a call owns, beside boxes of another type: what calls, stores and appends leave of both. No condition. No program in sight. -/
import Derived.Lib.AppendStr
import Derived.Lib.UnsafeStr
import Derived.Below
import Derived.Deep.Draws
import Derived.WalkKit
namespace Go.Proofs
open Go.RowKit Go.Lib

/-- In w the slice v owns n elements, the cells xs, in a block from B on; of what lay below B in W0 nothing has turned. -/
def Own (B : Nat) (e : TypeId) (sz : Nat) (v : Value) (n : Nat) (xs : List Value) (W0 w : World) : Prop :=
  w.ownsRow B e sz v n xs ∧ Below B W0 w ∧ B ≤ w.heap.size

section
variable {B : Nat} {e : TypeId} {sz : Nat} {v : Value} {n : Nat} {xs : List Value} {W0 w : World}

theorem Own.start (W0 : World) (e : TypeId) (sz : Nat) : Own W0.heap.size e sz (.slice none 0 0) 0 [] W0 W0 := ⟨World.ownsRow_nil _ _ _ _, Below.refl _ _, Nat.le_refl _⟩

theorem own_lt (h : w.ownsRow B e sz v n xs) : ∀ k, v.ownBlock = some k → B ≤ k ∧ k < w.heap.size := by
  intro k hk
  rcases h.2 with ⟨rfl, _⟩ | ⟨g, cap, cur, rfl, hb, hg, _⟩
  · simp [Value.ownBlock] at hk
  · simp [Value.ownBlock] at hk
    subst hk
    exact ⟨hb, (Array.getElem?_eq_some_iff.1 hg).1⟩

theorem own_ne (h : w.ownsRow B e sz v n xs) {g : Nat} {cs : Array Value} {t : TypeId} {fr : Nat × Nat} (hg : w.heap[g]? = some (.cells cs t fr)) (hne : t ≠ e) : some g ≠ v.ownBlock := by
  rcases h.2 with ⟨rfl, _⟩ | ⟨g', cap, cur, rfl, hb, hgg, _⟩
  · simp [Value.ownBlock]
  · simp only [Value.ownBlock, ne_eq, Option.some.injEq]
    rintro rfl
    rw [hgg] at hg
    simp only [Option.some.injEq, Obj.cells.injEq] at hg
    exact hne hg.2.1.symm

theorem grown_of_below {w' : World} (h : Below w.heap.size w w') (row : Option Nat) : w.grownBy w' row := ⟨h.os, h.tape, h.output, h.size, fun i hi _ => h.block i hi⟩

theorem Own.call {w' : World} (h : Own B e sz v n xs W0 w) (hb : Below w.heap.size w w') : Own B e sz v n xs W0 w' :=
  ⟨h.1.kept (grown_of_below hb none) (by cases hv : v.ownBlock <;> simp), h.2.1.trans (hb.mono h.2.2), Nat.le_trans h.2.2 hb.size⟩

theorem Own.alloc (h : Own B e sz v n xs W0 w) (o : Obj) : Own B e sz v n xs W0 (w.alloc o) := h.call ((Below.refl _ _).alloc (Nat.le_refl _) o)

theorem Own.drew (h : Own B e sz v n xs W0 w) : Own B e sz v n xs W0 w.drew := h.call (Below.refl _ _).drew

theorem Own.drewN (h : Own B e sz v n xs W0 w) (k : Nat) : Own B e sz v n xs W0 (w.drewN k) := h.call ⟨rfl, rfl, rfl, Nat.le_refl _, fun _ _ => rfl⟩

theorem Own.set (h : Own B e sz v n xs W0 w) {g : Nat} {cs : Array Value} {t : TypeId} {fr : Nat × Nat} (hg : w.heap[g]? = some (.cells cs t fr)) (hne : t ≠ e) (hB : B ≤ g) (i : Nat) (x : Value) : Own B e sz v n xs W0 (w.setCell ⟨g, i, none⟩ x) :=
  ⟨h.1.kept (row := some g) ⟨rfl, rfl, rfl, by simp [World.setCell], fun k _ hk => Below.heap_setCell w _ x k (fun e => hk (by rw [e]))⟩ (.inr (Ne.symm (own_ne h.1 hg hne))),
    h.2.1.setCell hB x, by simpa [World.setCell] using h.2.2⟩

/-- Blocks of another type are as they were. -/
def Boxes (t : TypeId) (w w' : World) : Prop := w.heap.size ≤ w'.heap.size ∧ ∀ (g : Nat) (cs : Array Value) (fr : Nat × Nat), w.heap[g]? = some (Obj.cells cs t fr) → w'.heap[g]? = some (Obj.cells cs t fr)

theorem Own.grown {w' : World} {v' : Value} {n' : Nat} {xs' : List Value} (h : Own B e sz v n xs W0 w) (ho : w'.ownsRow B e sz v' n' xs') (hg : w.grownBy w' v.ownBlock) : Own B e sz v' n' xs' W0 w' :=
  ⟨ho, h.2.1.grown hg h.2.2 (fun k hk => (own_lt h.1 k hk).1), Nat.le_trans h.2.2 hg.size⟩

theorem Own.boxes {w' : World} (h : Own B e sz v n xs W0 w) (hg : w.grownBy w' v.ownBlock) {t : TypeId} (hne : t ≠ e) : Boxes t w w' :=
  ⟨hg.size, fun g _cs _fr hh => (hg.block g (Array.getElem?_eq_some_iff.1 hh).1 (own_ne h.1 hh hne)).trans hh⟩

end

section
variable {P : Program}

end
end Go.Proofs
