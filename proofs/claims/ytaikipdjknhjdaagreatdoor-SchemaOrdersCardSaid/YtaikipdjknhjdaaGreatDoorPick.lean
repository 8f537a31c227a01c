/- Names of tables, rows of names that a call owns. No condition. -/
import Derived.Test.YtaikipdjknhjdaaGreatDoorReach
import Derived.Lib.AppendStr
namespace Go.Proofs
open Go.RowKit Go.Ke Go.Orders

/-! ### A row that a call owns -/

/-- In w the slice v owns n elements, the cells xs, in a block from B on; of what lay below B in W0 nothing has turned. -/
def Own (B : Nat) (e : TypeId) (sz : Nat) (v : Value) (n : Nat) (xs : List Value) (W0 w : World) : Prop :=
  w.ownsRow B e sz v n xs ∧ Below B W0 w ∧ B ≤ w.heap.size

section
variable {B : Nat} {e : TypeId} {sz : Nat} {v : Value} {n : Nat} {xs : List Value} {W0 w : World}

theorem Own.start (W0 : World) (e : TypeId) (sz : Nat) : Own W0.heap.size e sz (.slice none 0 0) 0 [] W0 W0 := ⟨World.ownsRow_nil _ _ _ _, Below.refl _ _, Nat.le_refl _⟩

theorem own_lt (h : w.ownsRow B e sz v n xs) : ∀ k, v.ownBlock = some k → B ≤ k ∧ k < w.heap.size := by
  intro k hk
  rcases h.2 with ⟨rfl, _⟩ | ⟨g, cap, cur, rfl, hb, hg, _⟩
  · simp [Value.ownBlock] at hk
  · simp [Value.ownBlock] at hk
    subst hk
    exact ⟨hb, (Array.getElem?_eq_some_iff.1 hg).1⟩

theorem own_ne (h : w.ownsRow B e sz v n xs) {g : Nat} {cs : Array Value} {t : TypeId} {fr : Nat × Nat} (hg : w.heap[g]? = some (.cells cs t fr)) (hne : t ≠ e) : some g ≠ v.ownBlock := by
  rcases h.2 with ⟨rfl, _⟩ | ⟨g', cap, cur, rfl, hb, hgg, _⟩
  · simp [Value.ownBlock]
  · simp only [Value.ownBlock, ne_eq, Option.some.injEq]
    rintro rfl
    rw [hgg] at hg
    simp only [Option.some.injEq, Obj.cells.injEq] at hg
    exact hne hg.2.1.symm

theorem grown_of_below {w' : World} (h : Below w.heap.size w w') (row : Option Nat) : w.grownBy w' row := ⟨h.os, h.tape, h.output, h.size, fun i hi _ => h.block i hi⟩

theorem Own.call {w' : World} (h : Own B e sz v n xs W0 w) (hb : Below w.heap.size w w') : Own B e sz v n xs W0 w' :=
  ⟨h.1.kept (grown_of_below hb none) (by cases hv : v.ownBlock <;> simp), h.2.1.trans (hb.mono h.2.2), Nat.le_trans h.2.2 hb.size⟩

theorem Own.alloc (h : Own B e sz v n xs W0 w) (o : Obj) : Own B e sz v n xs W0 (w.alloc o) := h.call ((Below.refl _ _).alloc (Nat.le_refl _) o)

theorem Own.drew (h : Own B e sz v n xs W0 w) : Own B e sz v n xs W0 w.drew := h.call (Below.refl _ _).drew

theorem Own.set (h : Own B e sz v n xs W0 w) {g : Nat} {cs : Array Value} {t : TypeId} {fr : Nat × Nat} (hg : w.heap[g]? = some (.cells cs t fr)) (hne : t ≠ e) (hB : B ≤ g) (i : Nat) (x : Value) : Own B e sz v n xs W0 (w.setCell ⟨g, i, none⟩ x) :=
  ⟨h.1.kept (row := some g) ⟨rfl, rfl, rfl, by simp [World.setCell], fun k _ hk => Below.heap_setCell w _ x k (fun e => hk (by rw [e]))⟩ (.inr (Ne.symm (own_ne h.1 hg hne))),
    h.2.1.setCell hB x, by simpa [World.setCell] using h.2.2⟩

/-- Blocks of another type are as they were. -/
def Boxes (t : TypeId) (w w' : World) : Prop := w.heap.size ≤ w'.heap.size ∧ ∀ (g : Nat) (cs : Array Value) (fr : Nat × Nat), w.heap[g]? = some (Obj.cells cs t fr) → w'.heap[g]? = some (Obj.cells cs t fr)

theorem Own.grown {w' : World} {v' : Value} {n' : Nat} {xs' : List Value} (h : Own B e sz v n xs W0 w) (ho : w'.ownsRow B e sz v' n' xs') (hg : w.grownBy w' v.ownBlock) : Own B e sz v' n' xs' W0 w' :=
  ⟨ho, h.2.1.grown hg h.2.2 (fun k hk => (own_lt h.1 k hk).1), Nat.le_trans h.2.2 hg.size⟩

theorem Own.boxes {w' : World} (h : Own B e sz v n xs W0 w) (hg : w.grownBy w' v.ownBlock) {t : TypeId} (hne : t ≠ e) : Boxes t w w' :=
  ⟨hg.size, fun g _cs _fr hh => (hg.block g (Array.getElem?_eq_some_iff.1 hh).1 (own_ne h.1 hh hne)).trans hh⟩

end

/-- The cells of a row of names. -/
def names (l : List Nat) : List Value := l.map fun i => .string (nameL i)

theorem names_snoc (l : List Nat) (i : Nat) : names (l ++ [i]) = names l ++ [.string (nameL i)] := by unfold names; simp

/-- A row of names. -/
def Names (B : Nat) (v : Value) (l : List Nat) (W0 w : World) : Prop := Own B 9 1 v l.length (names l) W0 w

theorem Names.start (W0 : World) : Names W0.heap.size (.slice none 0 0) [] W0 W0 := Own.start W0 9 1

theorem Names.call {B : Nat} {v : Value} {l : List Nat} {W0 w w' : World} (h : Names B v l W0 w) (hb : Below w.heap.size w w') : Names B v l W0 w' := Own.call h hb

theorem Names.slice {B : Nat} {v : Value} {l : List Nat} {W0 w : World} (h : Names B v l W0 w) : ∃ ad cap, v = .slice ad l.length cap ∧ StrsAt w ad (l.map nameL) := by
  rcases h.1.2 with ⟨hv, hn⟩ | ⟨g, cap, cur, hv, hb, hg, _⟩
  · refine ⟨none, 0, by rw [hv, hn], fun i hi => ?_⟩
    rw [List.length_map] at hi
    omega
  · refine ⟨some ⟨g, 0, none⟩, cap, hv, fun i hi => ⟨g, 0, rfl, ?_⟩⟩
    have hc := h.1.cells (g := g) (by rw [hv]; rfl)
    have ha : ∀ j, (⟨g, 0, none⟩ : Addr).add j = ⟨g, 0 + j, none⟩ := fun j => by unfold Addr.add; split <;> simp_all
    have h0 : (names l)[i]? = some (.string ((l.map nameL)[i])) := by
      rw [List.length_map] at hi
      unfold names
      simp [hi]
    have c0 := hc _ _ h0
    rwa [ha] at c0

theorem Tryz.info9' : (Tryz.prog.info? 9).map (fun i => (i.zero, i.size, i.bytes)) = some (some (.string ⟨#[]⟩), 1, 16) := by kernel_rfl
theorem Tryz.under35 : Tryz.prog.underlying 35 = some (.slice 9) := by kernel_rfl

/-- A name joins the row. -/
theorem append_name {ops : Array Oper} {rest : List Oper} {o : Oper} {a : Act} {Q : Exit → Act → World → Prop} (hgd : o.guard = none) (s x : Operand)
    (ho : o.op = .call { callee := .builtin .append, args := #[s, x], argTypes := #[35, 35] })
    {B : Nat} {v : Value} {l : List Nat} {W0 w0 : World} (hb : Names B v l W0 w0) (k : Nat) {c : ByteArray} (hc : c = nameL k) (hlen : l.length + 1 ≤ 1000000000) (hs : a.eval s = v)
    (hx : ∃ G, a.eval x = .slice (some ⟨G, 0, none⟩) 1 1 ∧ w0.heap.size = G)
    (h : ∀ v' w', Names B v' (l ++ [k]) W0 w' → (∀ t, t ≠ 9 → Boxes t w0 w') → wpList Tryz.prog ops Q rest (a.put o.dst v') w') : wpList Tryz.prog ops Q (o :: rest) a (w0.alloc (.cells #[.string c] 9)) := by
  subst hc
  obtain ⟨i, hi, hz, hsize, hby⟩ := info_parts Tryz.info9'
  obtain ⟨G, hx, rfl⟩ := hx
  have hb' : Own B 9 1 v l.length (names l) W0 (w0.alloc (.cells #[.string (nameL k)] 9)) := Own.alloc hb _
  refine wpList_append_own _ hgd s x 35 ho B 9 i (.string ⟨#[]⟩) 1 16 Tryz.under35 hi hz hsize hby rfl (by decide) v l.length (names l) hs hb'.1 ⟨w0.heap.size, 0, none⟩ 1 1 [.string (nameL k)] hx rfl ?_ ?_ (by unfold maxLen; omega) (by omega) hb'.2.2 ?_
  · intro j y hj
    match j, hj with
    | 0, hj => simp at hj; subst hj; simp [Addr.add]
    | (j + 1), hj => simp at hj
  · intro y hy; simp at hy; subst hy; rfl
  · intro v' w' ho' hg _
    have hsz := ex_alloc_size w0 (.cells #[.string (nameL k)] 9)
    have hbx : ∀ t, t ≠ 9 → Boxes t w0 w' := fun t ht => by
      obtain ⟨g1, g2⟩ := hb'.boxes hg ht
      exact ⟨by omega, fun g cs fr hh => g2 g cs fr ((heap_alloc_old w0 _ (blk_lt hh)).trans hh)⟩
    refine h v' w' ?_ hbx
    show Own B 9 1 v' (l ++ [k]).length (names (l ++ [k])) W0 w'
    rw [names_snoc, List.length_append]
    exact hb'.grown ho' hg

theorem Bools.boxes {w w' : World} {b n : Nat} {f : Nat → Bool} (h : Bools w b n f) (hb : Boxes 4 w w') : Bools w' b n f := by
  obtain ⟨cs, h1, h2⟩ := h
  exact ⟨cs, hb.2 _ _ _ h1, h2⟩

/-! ### Names -/

theorem name_eq {i j : Nat} (hi : i < 6) (hj : j < 6) : ((nameL i).toList == (nameL j).toList) = (i == j) := by
  have h : ∀ i j : Fin 6, ((nameL i.1).data.toList == (nameL j.1).data.toList) = (i.1 == j.1) := by decide
  rw [Lib.toList_data, Lib.toList_data]
  exact h ⟨i, hi⟩ ⟨j, hj⟩

theorem name_has {l : List Nat} {j n : Nat} (hl : ∀ i ∈ l, i < n) (hn : n ≤ 6) (hj : j < n) : ((l.map nameL).any fun y => (nameL j).toList == y.toList) = has l j := by
  unfold has
  induction l with
  | nil => rfl
  | cons a l ih =>
    rw [List.map_cons, List.any_cons, ih fun i hi => hl i (List.mem_cons_of_mem _ hi), name_eq (by omega) (by have := hl a (List.mem_cons_self ..); omega), List.contains_cons]

theorem has_snoc (l : List Nat) (i j : Nat) : has (l ++ [i]) j = if j = i then true else has l j := by
  unfold has
  rw [List.contains_append]
  by_cases e : j = i
  · subst e; simp
  · simp [e]

/-- The tables in circles, the first i looked at. -/
def circN (R : Mat) (n i : Nat) : List Nat := (List.range i).filter fun a => (List.range n).any (circ R a)

theorem circN_next (R : Mat) (n i : Nat) : circN R n (i + 1) = circN R n i ++ if (List.range n).any (circ R i) then [i] else [] := by
  unfold circN
  rw [List.range_succ, List.filter_append]
  congr 1
  simp only [List.filter_cons, List.filter_nil]

theorem circN_len (R : Mat) (n i : Nat) : (circN R n i).length ≤ i := by
  unfold circN
  have := List.length_filter_le (fun a => (List.range n).any (circ R a)) (List.range i)
  rwa [List.length_range] at this

theorem circN_lt {R : Mat} {n i a : Nat} (h : a ∈ circN R n i) : a < i := by
  unfold circN at h
  exact List.mem_range.mp (List.mem_filter.mp h).1

theorem Schema.waits_eq {x : Schema} {R : Mat} {st : Nat → Bool} {i : Nat} (hi : i < x.n) : waits x.gs R st i = (List.range (x.nf i)).any fun k => !(x.tg i k == i) && (!st (x.tg i k) && !circ R i (x.tg i k)) := by
  unfold waits
  rw [Schema.targets hi, List.any_map]
  rfl

/-- The next table, found by a search from the first on. -/
theorem next_found {gs : List (List Nat)} {R : Mat} {n i : Nat} {st : Nat → Bool} (hi : i < n) (h1 : st i = false) (h2 : waits gs R st i = false) (h3 : ∀ j, j < i → (!st j && !waits gs R st j) = false) : nextT gs R n st = some i := by
  unfold nextT
  rw [List.find?_range_eq_some]
  refine ⟨by rw [h1, h2]; rfl, List.mem_range.mpr hi, fun j hj => ?_⟩
  rw [h3 j hj]
  rfl

theorem next_none {gs : List (List Nat)} {R : Mat} {n : Nat} {st : Nat → Bool} (h : ∀ j, j < n → (!st j && !waits gs R st j) = false) : nextT gs R n st = none := by
  unfold nextT
  rw [List.find?_eq_none]
  intro j hj
  rw [h j (List.mem_range.mp hj)]
  decide

theorem order_succ {gs : List (List Nat)} {R : Mat} {n m i : Nat} (h : nextT gs R n (has (orderN gs R n m)) = some i) : orderN gs R n (m + 1) = orderN gs R n m ++ [i] := by
  show (match nextT gs R n (has (orderN gs R n m)) with | some i => _ | none => _) = _
  rw [h]

theorem order_lt {gs : List (List Nat)} {R : Mat} {n : Nat} : ∀ {m a : Nat}, a ∈ orderN gs R n m → a < n := by
  intro m
  induction m with
  | zero => intro a h; cases h
  | succ m ih =>
    intro a h
    cases hn : nextT gs R n (has (orderN gs R n m)) with
    | none =>
      have e : orderN gs R n (m + 1) = orderN gs R n m := by
        show (match nextT gs R n (has (orderN gs R n m)) with | some i => _ | none => _) = _
        rw [hn]
      exact ih (e ▸ h)
    | some i =>
      rw [order_succ hn, List.mem_append] at h
      rcases h with h | h
      · exact ih h
      · rw [List.mem_singleton] at h
        rw [h]
        exact (next_spec hn).1

end Go.Proofs
