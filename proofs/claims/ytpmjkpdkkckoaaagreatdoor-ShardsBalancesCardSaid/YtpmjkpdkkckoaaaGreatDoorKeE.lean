/- The abstract heap and the world, step by step: a load, a store, a new block, a growing row. No condition. -/
import Derived.Test.YtpmjkpdkkckoaaaGreatDoorKeD
import Derived.Laws.Cells
namespace Go.Ke
open Go.RowKit (Below)

/-! ### Small lists -/

theorem keepStack_cons (k p : Nat) (x : Nat × Nat) (l : List (Nat × Nat)) :
    keepStack k p (x :: l) = if x.1 = k ∨ x.2 ≤ p then x :: keepStack k p l else keepStack k p l := by
  show (match Nat.beq x.1 k || Nat.ble x.2 p with | true => x :: keepStack k p l | false => keepStack k p l) = _
  by_cases h1 : x.1 = k
  · rw [if_pos (.inl h1), show Nat.beq x.1 k = true by rw [h1]; exact Nat.beq_refl k]; rfl
  · have e1 : Nat.beq x.1 k = false := by
      cases h : Nat.beq x.1 k
      · rfl
      · exact absurd (Nat.eq_of_beq_eq_true h) h1
    by_cases h2 : x.2 ≤ p
    · rw [if_pos (.inr h2), e1, Nat.ble_eq_true_of_le h2]; rfl
    · have e2 : Nat.ble x.2 p = false := by
        cases h : Nat.ble x.2 p
        · rfl
        · exact absurd (Nat.le_of_ble_eq_true h) h2
      rw [if_neg (by simp [h1, h2]), e1, e2]; rfl

theorem mem_keepStack (k p : Nat) (l : List (Nat × Nat)) (y : Nat × Nat) : y ∈ keepStack k p l ↔ y ∈ l ∧ (y.1 = k ∨ y.2 ≤ p) := by
  induction l with
  | nil => simp [keepStack]
  | cons x l ih =>
    rw [keepStack_cons]
    split
    · rename_i h
      simp only [List.mem_cons, ih]
      constructor
      · rintro (rfl | ⟨a, b⟩)
        · exact ⟨.inl rfl, h⟩
        · exact ⟨.inr a, b⟩
      · rintro ⟨rfl | a, b⟩
        · exact .inl rfl
        · exact .inr ⟨a, b⟩
    · rename_i h
      simp only [List.mem_cons, ih]
      constructor
      · rintro ⟨a, b⟩; exact ⟨.inr a, b⟩
      · rintro ⟨rfl | a, b⟩
        · exact absurd b h
        · exact ⟨a, b⟩

theorem allOne_spec : ∀ {l : List Value}, allOne l = true → ∀ v ∈ l, v.oneCell' = true := by
  intro l
  induction l with
  | nil => intro _ v hv; cases hv
  | cons x l ih =>
    intro h v hv
    change @Bool.rec (fun _ => Bool) false (allOne l) x.oneCell' = true at h
    cases hx : x.oneCell' with
    | false => rw [hx] at h; cases h
    | true =>
      rw [hx] at h
      cases hv with
      | head => exact hx
      | tail _ hv => exact ih h v hv

theorem VRel.one {ρ : Loc} {v v' : Value} (h : VRel ρ v v') : v'.oneCell' = v.oneCell' := by
  cases h with
  | any _ hv => rcases anyV_cases hv with ⟨_, _, _, rfl⟩ | ⟨_, rfl⟩ <;> rfl
  | _ => rfl

theorem LRel.one {ρ : Loc} {l l' : List Value} (h : LRel ρ l l') (ho : ∀ v ∈ l, v.oneCell' = true) : ∀ v ∈ l', v.oneCell' = true := by
  induction h with
  | nil => intro v hv; cases hv
  | cons hxy _ ih =>
    intro v hv
    cases hv with
    | head => rw [hxy.one]; exact ho _ (by simp)
    | tail _ hv => exact ih (fun v hv => ho v (by simp [hv])) v hv

/-! ### Cells laid over an array -/

def over (c : Array Value) (s : Nat) : List Value → Array Value
  | [] => c
  | v :: r => over (c.setIfInBounds s v) (s + 1) r

theorem over_size (c : Array Value) (s : Nat) (vs : List Value) : (over c s vs).size = c.size := by
  induction vs generalizing c s with
  | nil => rfl
  | cons v r ih => rw [over, ih]; simp

theorem over_get (c : Array Value) (s : Nat) (vs : List Value) (h : s + vs.length ≤ c.size) (j : Nat) :
    (over c s vs)[j]? = if s ≤ j ∧ j < s + vs.length then vs[j - s]? else c[j]? := by
  induction vs generalizing c s with
  | nil => rw [over, if_neg (by simp)]
  | cons v r ih =>
    simp only [List.length_cons] at h
    rw [over, ih _ _ (by simp; omega)]
    by_cases h1 : s + 1 ≤ j ∧ j < s + 1 + r.length
    · rw [if_pos h1, if_pos (by simp; omega)]
      obtain ⟨m, rfl⟩ : ∃ m, j = s + 1 + m := ⟨j - (s + 1), by omega⟩
      rw [show s + 1 + m - (s + 1) = m by omega, show s + 1 + m - s = m + 1 by omega]
      simp
    · rw [if_neg h1]
      by_cases e : j = s
      · subst e
        rw [if_pos (by simp)]
        simp [show j < c.size by omega]
      · rw [if_neg (by simp at h1 ⊢; omega)]
        rw [Array.getElem?_setIfInBounds_ne (Ne.symm e)]

section
variable {P : Program}

theorem cell_of_block {w : World} {b : Nat} {c : Array Value} {e : TypeId} {fz : Nat × Nat} (h : w.heap[b]? = some (.cells c e fz)) (o : Nat) :
    w.cell? ⟨b, o, none⟩ = c[o]? := by
  simp [World.cell?, h]

theorem frozen_of_block {w : World} {b : Nat} {c : Array Value} {e : TypeId} {fz : Nat × Nat} (h : w.heap[b]? = some (.cells c e fz)) (o : Nat) :
    w.frozen? ⟨b, o, none⟩ = (decide (fz.1 ≤ o) && decide (o < fz.2)) := by
  simp [World.frozen?, h]

theorem setCell_of_block {w : World} {b : Nat} {c : Array Value} {e : TypeId} {fz : Nat × Nat} (h : w.heap[b]? = some (.cells c e fz)) (o : Nat) (v : Value) :
    w.setCell ⟨b, o, none⟩ v = { w with heap := w.heap.setIfInBounds b (.cells (c.setIfInBounds o v) e fz) } := by
  have hb : b < w.heap.size := (Array.getElem?_eq_some_iff.1 h).1
  have he : w.heap[b] = .cells c e fz := (Array.getElem?_eq_some_iff.1 h).2
  simp only [World.setCell]
  congr 1
  apply Array.ext_getElem?
  intro i
  rw [Array.getElem?_modify, Array.getElem?_setIfInBounds]
  by_cases hi : b = i
  · subst hi
    simp [hb, he]
  · simp [hi]

theorem storeCells_run {b : Nat} {e : TypeId} {fz : Nat × Nat} (base : Nat) : ∀ (vs : List Value) (i : Nat) (c : Array Value) (w : World),
    w.heap[b]? = some (.cells c e fz) → base + i + vs.length ≤ c.size → (∀ j, j < vs.length → ¬ (fz.1 ≤ base + i + j ∧ base + i + j < fz.2)) → (∀ v ∈ vs, v.oneCell' = true) →
    (storeCells ⟨b, base, none⟩ vs i).run P w = .ok () { w with heap := w.heap.setIfInBounds b (.cells (over c (base + i) vs) e fz) } := by
  intro vs
  induction vs with
  | nil =>
    intro i c w h _ _ _
    have hb : b < w.heap.size := (Array.getElem?_eq_some_iff.1 h).1
    have he : w.heap[b] = .cells c e fz := (Array.getElem?_eq_some_iff.1 h).2
    rw [storeCells]
    show Result.ok () w = _
    congr 1
    have : w.heap.setIfInBounds b (.cells (over c (base + i) []) e fz) = w.heap := by
      apply Array.ext_getElem?
      intro j
      rw [Array.getElem?_setIfInBounds]
      by_cases hj : b = j
      · subst hj; simp [hb, he, over]
      · simp [hj]
    rw [this]
  | cons v r ih =>
    intro i c w h hs hf ho
    simp only [List.length_cons] at hs hf
    have hadd : (Addr.add ⟨b, base, none⟩ i) = ⟨b, base + i, none⟩ := by
      unfold Addr.add
      split
      · rename_i h0; subst h0; rfl
      · rfl
    rw [storeCells]
    simp only [Sem.run_bind, hadd]
    have hfr : w.frozen? ⟨b, base + i, none⟩ = false := by
      rw [frozen_of_block h]
      have := hf 0 (by omega)
      simp at this ⊢
      omega
    have hlt : base + i < c.size := by omega
    rw [run_store P w _ v .plain (ho v (by simp)), cell_of_block h, Array.getElem?_eq_getElem hlt]
    simp only [hfr, Bool.false_eq_true, if_false, Result.andThen_ok]
    rw [setCell_of_block h]
    have hb : b < w.heap.size := (Array.getElem?_eq_some_iff.1 h).1
    rw [ih (i + 1) (c.setIfInBounds (base + i) v) _ (by simp [hb]) (by simp; omega) (fun j hj => by have := hf (j + 1) (by omega); rw [show base + (i + 1) + j = base + i + (j + 1) by omega]; exact this) (fun v hv => ho v (by simp [hv]))]
    congr 2
    simp only [over, show base + (i + 1) = base + i + 1 by omega]
    apply Array.ext_getElem?
    intro j
    simp only [Array.getElem?_setIfInBounds, Array.size_setIfInBounds]
    by_cases hj : b = j
    · simp [hj]
    · simp [hj]

/-! ### What a mapping knows lasts -/

theorem ERel.mono {ρ ρ' : Loc} (hle : ρ.le ρ') {e e' : MapEntry} (h : ERel ρ e e') : ERel ρ' e e' := ⟨h.key.mono hle, h.val.mono hle, h.born⟩
theorem F2.mono {α β : Type} {R R' : α → β → Prop} (hr : ∀ a b, R a b → R' a b) {l : List α} {l' : List β} (h : F2 R l l') : F2 R' l l' := by
  induction h with
  | nil => exact .nil
  | cons h _ ih => exact .cons (hr _ _ h) ih

theorem MRel.mono {ρ ρ' : Loc} (hle : ρ.le ρ') : ∀ {m m' : Option Nat}, MRel ρ m m' → MRel ρ' m m'
  | none, none, _ => trivial
  | some _, some _, ⟨p, h, e⟩ => ⟨p, hle _ _ h, e⟩
  | none, some _, h => h.elim
  | some _, none, h => h.elim

/-- What a block says, in a later world that holds the same in its block, of a later heap in which no more is valid and no more may be frozen. -/
theorem ORel.later {ρ ρ' : Loc} {σ σ' : St} {w w' : World} {k : Nat} {p : Pl} {ob : AObj} (h : ORel P ρ σ w k p ob) (hle : ρ.le ρ') (hw : w'.heap[p.b]? = w.heap[p.b]?)
    (hv : σ'.valid k (ob.clsOf k) = true → σ.valid k (ob.clsOf k) = true) (hf : ∀ i, σ.maybeFrozen (ob.clsOf k) i → σ'.maybeFrozen (ob.clsOf k) i)
    (he : ∀ x', σ'.cls.get (ob.clsOf k) = some x' → ∀ e, (k, e) ∈ x'.stack → ∃ x, σ.cls.get (ob.clsOf k) = some x ∧ (k, e) ∈ x.stack) : ORel P ρ' σ' w' k p ob := by
  cases ob with
  | row cells len elem cls pos =>
    obtain ⟨hsz, c, fz, hr⟩ := h
    refine ⟨hsz, c, fz, ⟨by rw [hw]; exact hr.at', hr.size, hr.within, fun hv' => ?_, fun i hi hn => hr.free i hi fun hm => hn (hf _ hm), fun x' hx' e hm => ?_, hr.base⟩⟩
    · obtain ⟨h1, h2⟩ := hr.holds (hv hv')
      refine ⟨h1, fun i v hi hc => ?_⟩
      obtain ⟨v', hv', hrel⟩ := h2 i v hi hc
      exact ⟨v', hv', hrel.mono hle⟩
    · obtain ⟨x, hx, hm'⟩ := he x' hx' e hm
      exact hr.ends x hx e hm'
  | map es clock =>
    obtain ⟨es', h1, h2⟩ := h
    exact ⟨es', by rw [hw]; exact h1, h2.mono fun a b e => e.mono hle⟩
  | mapIter m since seen stepped =>
    obtain ⟨h0, m', h1, h2⟩ := h
    exact ⟨h0, m', by rw [hw]; exact h1, h2.mono hle⟩
  | strIter s pos => exact ⟨h.1, by rw [hw]; exact h.2⟩
  | bag es =>
    obtain ⟨es', c, es1, h1, h2, h3⟩ := h
    exact ⟨es', c, es1, by rw [hw]; exact h1, h2.mono fun a b e => e.mono hle, h3⟩

def AObj.isRow : AObj → Bool
  | .row _ _ _ _ _ => true
  | _ => false

theorem ORel.laterObj {ρ ρ' : Loc} {σ σ' : St} {w w' : World} {k : Nat} {p : Pl} {ob : AObj} (h : ORel P ρ σ w k p ob) (hle : ρ.le ρ') (hw : w'.heap[p.b]? = w.heap[p.b]?)
    (hrow : ob.isRow = false) : ORel P ρ' σ' w' k p ob := by
  cases ob with
  | row cells len elem cls pos => cases hrow
  | map es clock =>
    obtain ⟨es', h1, h2⟩ := h
    exact ⟨es', by rw [hw]; exact h1, h2.mono fun a b e => e.mono hle⟩
  | mapIter m since seen stepped =>
    obtain ⟨h0, m', h1, h2⟩ := h
    exact ⟨h0, m', by rw [hw]; exact h1, h2.mono hle⟩
  | strIter s pos => exact ⟨h.1, by rw [hw]; exact h.2⟩
  | bag es =>
    obtain ⟨es', c, es1, h1, h2, h3⟩ := h
    exact ⟨es', c, es1, by rw [hw]; exact h1, h2.mono fun a b e => e.mono hle, h3⟩

theorem Rel.of_heap {N : Nat} {ρ : Loc} {σ : St} {w w' : World} (h : Rel P N ρ σ w) (hh : w'.heap = w.heap) : Rel P N ρ σ w' := by
  refine ⟨fun k p hk => by rw [hh]; exact h.dom k p hk, h.above, h.clsAbove, fun k p ob hk ho => ?_, h.sep, h.lone, h.glob, by rw [hh]; exact h.size⟩
  exact (h.obj k p ob hk ho).later (Loc.le_refl ρ) (by rw [hh]) id (fun _ a => a) (fun x' hx' e hm => ⟨x', hx', hm⟩)

/-! ### A load -/

theorem aLoad_sound {N : Nat} {ρ : Loc} {σ : St} {w : World} (hr : Rel P N ρ σ w) {k off n : Nat} {l : List Value} (h : aLoad σ k off n = some l) {p : Pl} (hp : ρ k = some p) :
    l.length = n ∧ ∃ l', LRel ρ l l' ∧ ∀ j v, l'[j]? = some v → w.cell? (Addr.add ⟨p.b, p.o + off, none⟩ j) = some v := by
  unfold aLoad at h
  split at h
  · rename_i cells len elem cls pos hg
    split at h
    · rename_i hc
      simp only [Bool.and_eq_true] at hc
      obtain ⟨hval, hle⟩ := hc
      have hle := Nat.le_of_ble_eq_true hle
      obtain ⟨hlen, hget⟩ := readTr_spec cells n off l h
      obtain ⟨_, c, fz, hrow⟩ := hr.obj k p _ hp hg
      obtain ⟨h1, h2⟩ := hrow.holds hval
      have key : ∀ j, j < n → ∀ x, l[j]? = some x → ∃ v', c[p.o + off + j]? = some v' ∧ VRel ρ x v' := fun j hj x hx => by
        obtain ⟨v', hv', hrel⟩ := h2 (off + j) x (by omega) (hget j hj x hx)
        exact ⟨v', by rw [← hv']; congr 1; omega, hrel⟩
      refine ⟨hlen, ?_⟩
      have build : ∀ (l : List Value) (m : Nat), (∀ j x, l[j]? = some x → ∃ v', c[m + j]? = some v' ∧ VRel ρ x v') →
          ∃ l', LRel ρ l l' ∧ ∀ j v, l'[j]? = some v → c[m + j]? = some v := by
        intro l
        induction l with
        | nil => intro m _; exact ⟨[], .nil, fun j v hv => by simp at hv⟩
        | cons x l ih =>
          intro m hm
          obtain ⟨v', hv', hrel⟩ := hm 0 x (by simp)
          obtain ⟨l', hl', hc'⟩ := ih (m + 1) fun j y hy => by
            obtain ⟨u, hu, hru⟩ := hm (j + 1) y (by simpa using hy)
            exact ⟨u, by rw [show m + 1 + j = m + (j + 1) by omega]; exact hu, hru⟩
          refine ⟨v' :: l', .cons hrel hl', fun j v hv => ?_⟩
          cases j with
          | zero => simp at hv; subst hv; exact hv'
          | succ j =>
            have := hc' j v (by simpa using hv)
            rw [show m + (j + 1) = m + 1 + j by omega]; exact this
      obtain ⟨l', hl', hc'⟩ := build l (p.o + off) fun j x hx => by
        have hj : j < n := by
          rw [← hlen]
          exact (List.getElem?_eq_some_iff.1 hx).1
        exact key j hj x hx
      refine ⟨l', hl', fun j v hv => ?_⟩
      have hadd : (Addr.add ⟨p.b, p.o + off, none⟩ j) = ⟨p.b, p.o + off + j, none⟩ := by
        unfold Addr.add
        split
        · rename_i h0; subst h0; rfl
        · rfl
      rw [hadd, cell_of_block hrow.at']
      exact hc' j v hv
    · cases h
  · cases h

/-! ### A store -/

theorem aStore_inv {σ σ' : St} {k off : Nat} {vs : List Value} (h : aStore σ k off vs = some σ') : ∃ cells len elem cls pos, σ.heap.get k = some (.row cells len elem cls pos) ∧
    σ.valid k cls = true ∧ off + vs.length ≤ len ∧ allOne vs = true ∧ σ'.heap = σ.heap.set (.row (fillTr vs off cells) len elem cls pos) k ∧ σ'.next = σ.next ∧ σ'.G = σ.G ∧
    ((σ.cls.get cls = none ∧ σ'.cls = σ.cls) ∨
      ∃ x, σ.cls.get cls = some x ∧ x.clear (pos + off) vs.length = true ∧ σ'.cls = σ.cls.set { x with stack := keepStack k (pos + off) x.stack } cls) := by
  unfold aStore at h
  split at h
  · rename_i cells len elem cls pos hg
    split at h
    · cases h
    · rename_i hc
      simp only [Bool.and_eq_true] at hc
      obtain ⟨⟨hval, hle⟩, hone⟩ := hc
      have hle := Nat.le_of_ble_eq_true hle
      split at h
      · rename_i hn
        cases h
        exact ⟨cells, len, elem, cls, pos, hg, hval, hle, hone, rfl, rfl, rfl, .inl ⟨hn, rfl⟩⟩
      · rename_i x hx
        split at h
        · cases h
        · rename_i hcl
          cases h
          exact ⟨cells, len, elem, cls, pos, hg, hval, hle, hone, rfl, rfl, rfl, .inr ⟨x, hx, hcl, rfl⟩⟩
  · cases h

theorem clear_spec {x : ACls} {p n : Nat} (h : x.clear p n = true) : x.ro = false ∧ ∀ j, j < n → ¬ x.frozenAt (p + j) := by
  unfold ACls.clear at h
  simp only [Bool.and_eq_true, Bool.or_eq_true, Bool.not_eq_true'] at h
  obtain ⟨hro, h2⟩ := h
  refine ⟨hro, fun j hj hf => ?_⟩
  rcases hf with hf | ⟨h3, h4⟩
  · rw [hro] at hf; cases hf
  · rcases h2 with h2 | h2
    · have := Nat.le_of_ble_eq_true h2; omega
    · have := Nat.le_of_ble_eq_true h2; omega

theorem aStore_next {σ σ' : St} {k off : Nat} {vs : List Value} (h : aStore σ k off vs = some σ') : σ'.next = σ.next := by
  obtain ⟨_, _, _, _, _, _, _, _, _, _, h, _⟩ := aStore_inv h
  exact h

theorem LRel.map_get {ρ : Loc} {l l' : List Value} (h : LRel ρ l l') {i : Nat} {x y : Value} (hx : l[i]? = some x) (hy : l'[i]? = some y) : VRel ρ x y := by
  obtain ⟨z, hz, hr⟩ := h.get i x hx
  rw [hy] at hz
  cases hz
  exact hr

theorem aStore_sound {N : Nat} {ρ : Loc} {σ σ' : St} {w : World} (hr : Rel P N ρ σ w) {k off : Nat} {vs vs' : List Value} (h : aStore σ k off vs = some σ') {p : Pl} (hp : ρ k = some p)
    (hvs : LRel ρ vs vs') : ∃ w', (storeCells ⟨p.b, p.o + off, none⟩ vs').run P w = .ok () w' ∧ Rel P N ρ σ' w' ∧ Below N w w' := by
  obtain ⟨cells, len, elem, cls, pos, hg, hval, hle, hone, hheap, hnext, hG, hcls⟩ := aStore_inv h
  obtain ⟨hsz, c, fz, hrow⟩ := hr.obj k p _ hp hg
  obtain ⟨hin, hcells⟩ := hrow.holds hval
  have hlen := hvs.length
  have hfree : ∀ j, j < vs'.length → ¬ (fz.1 ≤ p.o + off + 0 + j ∧ p.o + off + 0 + j < fz.2) := fun j hj => by
    have hnf : ¬ σ.maybeFrozen cls (pos + (off + j)) := by
      rintro ⟨x', hx', hf⟩
      rcases hcls with ⟨hn, _⟩ | ⟨x, hx, hcl, _⟩
      · rw [hn] at hx'; cases hx'
      · rw [hx] at hx'
        cases hx'
        refine (clear_spec hcl).2 j (by omega) ?_
        rw [show pos + off + j = pos + (off + j) by omega]; exact hf
    have := hrow.free (off + j) (by omega) hnf
    rw [show p.o + off + 0 + j = p.o + (off + j) by omega]
    exact this
  have hrun := storeCells_run (P := P) (b := p.b) (e := elem) (fz := fz) (p.o + off) vs' 0 c w hrow.at' (by omega) hfree (hvs.one (allOne_spec hone))
  have hb : p.b < w.heap.size := (Array.getElem?_eq_some_iff.1 hrow.at').1
  have hN : N ≤ p.b := by
    have hor := (hr.dom k p hp).2.2 _ hg
    rcases hor with h1 | h1
    · exact h1
    · exfalso
      rcases hcls with ⟨hn, _⟩ | ⟨x, hx, hcl, _⟩
      · obtain ⟨x', hx', _⟩ := h1 0
        simp only [AObj.clsOf] at hx'
        rw [hn] at hx'; cases hx'
      · obtain ⟨x', hx', hf⟩ := h1 x.hi
        simp only [AObj.clsOf] at hx'
        rw [hx] at hx'
        cases hx'
        rcases hf with hf | ⟨_, hf⟩
        · rw [(clear_spec hcl).1] at hf; cases hf
        · omega
  have hget : ∀ j, (σ'.heap.get j) = if j = k then some (.row (fillTr vs off cells) len elem cls pos) else σ.heap.get j := fun j => by rw [hheap, Tr.get_set]
  have hstack : ∀ c' x', σ'.cls.get c' = some x' → ∃ x, σ.cls.get c' = some x ∧ (∀ y ∈ x'.stack, y ∈ x.stack) ∧ (c' = cls → ∀ y ∈ x'.stack, y.1 = k ∨ y.2 ≤ pos + off) ∧ x'.lo = x.lo ∧ x'.hi = x.hi ∧ x'.ro = x.ro := fun c' x' hx' => by
    rcases hcls with ⟨hn, he⟩ | ⟨x, hx, hcl, he⟩
    · rw [he] at hx'
      exact ⟨x', hx', fun _ a => a, fun e => (by subst e; rw [hn] at hx'; cases hx'), rfl, rfl, rfl⟩
    · rw [he, Tr.get_set] at hx'
      by_cases e : c' = cls
      · rw [if_pos e] at hx'
        cases hx'
        subst e
        exact ⟨x, hx, fun y hy => ((mem_keepStack _ _ _ _).1 hy).1, fun _ y hy => ((mem_keepStack _ _ _ _).1 hy).2, rfl, rfl, rfl⟩
      · rw [if_neg e] at hx'
        exact ⟨x', hx', fun _ a => a, fun h => absurd h e, rfl, rfl, rfl⟩
  have hnone : ∀ c', σ'.cls.get c' = none → σ.cls.get c' = none := fun c' h' => by
    rcases hcls with ⟨_, he⟩ | ⟨x, hx, _, he⟩
    · rw [he] at h'; exact h'
    · rw [he, Tr.get_set] at h'
      by_cases e : c' = cls
      · rw [if_pos e] at h'; cases h'
      · rw [if_neg e] at h'; exact h'
  have hfrz : ∀ c' i, σ.maybeFrozen c' i → σ'.maybeFrozen c' i := fun c' i ⟨x, hx, hf⟩ => by
    rcases hcls with ⟨_, he⟩ | ⟨y, hy, _, he⟩
    · exact ⟨x, by rw [he]; exact hx, hf⟩
    · by_cases e : c' = cls
      · subst e
        rw [hy] at hx
        obtain rfl : y = x := by simpa using hx
        exact ⟨{ y with stack := keepStack k (pos + off) y.stack }, by rw [he, Tr.get_set, if_pos rfl], hf⟩
      · exact ⟨x, by rw [he, Tr.get_set, if_neg e]; exact hx, hf⟩
  have hvalid : ∀ k' c', σ'.valid k' c' = true → σ.valid k' c' = true := fun k' c' hv => by
    unfold St.valid at hv ⊢
    cases hx : σ.cls.get c' with
    | none => rfl
    | some x =>
      cases hx' : σ'.cls.get c' with
      | none => rw [hnone c' hx'] at hx; cases hx
      | some x' =>
        rw [hx'] at hv
        obtain ⟨y, hy, hsub, _⟩ := hstack c' x' hx'
        rw [hx] at hy
        cases hy
        obtain ⟨e, he⟩ := (inStack_iff _ _).1 hv
        exact (inStack_iff _ _).2 ⟨e, hsub _ he⟩
  have hcls' : ∀ j ob', σ'.heap.get j = some ob' → ∃ ob, σ.heap.get j = some ob ∧ ob.clsOf j = ob'.clsOf j ∧ ob.posOf = ob'.posOf := fun j ob' hj => by
    rw [hget] at hj
    by_cases e : j = k
    · rw [if_pos e] at hj
      cases hj
      subst e
      exact ⟨_, hg, rfl, rfl⟩
    · rw [if_neg e] at hj
      exact ⟨ob', hj, rfl, rfl⟩
  have hback : ∀ j ob, σ.heap.get j = some ob → ∃ ob', σ'.heap.get j = some ob' ∧ ob'.clsOf j = ob.clsOf j := fun j ob hj => by
    rw [hget]
    by_cases e : j = k
    · subst e
      rw [hg] at hj
      cases hj
      exact ⟨_, if_pos rfl, rfl⟩
    · rw [if_neg e]; exact ⟨ob, hj, rfl⟩
  refine ⟨_, hrun, ?_, ⟨rfl, rfl, rfl, by simp, fun i hi => ?_⟩⟩
  · refine ⟨fun j q hj => ?_, fun j ob' hj => ?_, fun c' x' hx' => ?_, fun j q ob' hj ho => ?_, fun j j' q q' ob ob' hj hj' hbb ho ho' => ?_, fun j j' ob ob' ho ho' hc hn => ?_, fun g hgl => ?_, by simpa using hr.size⟩
    · obtain ⟨h1, h2, h3⟩ := hr.dom j q hj
      refine ⟨by simpa using h1, by rw [hnext]; exact h2, fun ob' ho' => ?_⟩
      obtain ⟨ob, hob, hc, _⟩ := hcls' j ob' ho'
      exact (h3 ob hob).imp id fun h i => by rw [← hc]; exact hfrz _ _ (h i)
    · obtain ⟨ob, hob, hc, _⟩ := hcls' j ob' hj
      rw [hnext, ← hc]
      exact hr.above j ob hob
    · obtain ⟨x, hx, hsub, _⟩ := hstack c' x' hx'
      rw [hnext]
      exact ⟨(hr.clsAbove c' x hx).1, fun k e hm => (hr.clsAbove c' x hx).2 k e (hsub _ hm)⟩
    · rw [hget] at ho
      by_cases e : j = k
      · subst e
        rw [if_pos rfl] at ho
        cases ho
        rw [hp] at hj
        cases hj
        refine ⟨hsz, over c (p.o + off + 0) vs', fz, ⟨by simp [hb], by rw [over_size]; exact hrow.size, by rw [over_size]; exact hrow.within, fun _ => ⟨by rw [over_size]; exact hin, fun i v hi hc => ?_⟩, fun i hi hn => ?_, fun x' hx' e he => ?_, hrow.base⟩⟩
        · rw [over_get _ _ _ (by omega)]
          rw [get_fillTr] at hc
          by_cases h1 : off ≤ i ∧ i < off + vs.length
          · rw [if_pos h1] at hc
            rw [if_pos (by omega)]
            obtain ⟨y, hy, hrel⟩ := hvs.get _ _ hc
            exact ⟨y, by rw [← hy]; congr 1; omega, hrel⟩
          · rw [if_neg h1] at hc
            rw [if_neg (by omega)]
            exact hcells i v hi hc
        · rw [over_size] at hi
          exact hrow.free i hi fun hm => hn (hfrz _ _ hm)
        · obtain ⟨x, hx, hsub, _⟩ := hstack _ x' hx'
          exact hrow.ends x hx e (hsub _ he)
      · rw [if_neg e] at ho
        have hold := hr.obj j q ob' hj ho
        by_cases eb : q.b = p.b
        · obtain ⟨hcl, hal⟩ := hr.sep j k q p ob' _ hj hp eb ho hg
          cases ob' with
          | row cells' len' elem' cls' pos' =>
            simp only [AObj.clsOf, AObj.posOf] at hcl hal
            subst hcl
            obtain ⟨hsz', c', fz', hrow'⟩ := hold
            have := hrow'.at'
            rw [eb, hrow.at'] at this
            cases this
            refine ⟨hsz', over c (p.o + off + 0) vs', fz, ⟨by rw [eb]; simp [hb], by rw [over_size]; exact hrow'.size, by rw [over_size]; exact hrow'.within, fun hv' => ?_, fun i hi hn => ?_, fun x' hx' e he => ?_, hrow'.base⟩⟩
            · obtain ⟨g1, g2⟩ := hrow'.holds (hvalid _ _ hv')
              have hend : pos' + len' ≤ pos + off := by
                cases hcx : σ'.cls.get cls' with
                | none => exact absurd (hr.lone j k _ _ ho hg rfl (hnone _ hcx)) e
                | some x' =>
                  unfold St.valid at hv'
                  rw [hcx] at hv'
                  obtain ⟨e', he'⟩ := (inStack_iff _ _).1 hv'
                  obtain ⟨x, hx, hsub, hk, _⟩ := hstack _ x' hcx
                  have h3 := hrow'.ends x hx e' (hsub _ he')
                  rcases hk rfl _ he' with h4 | h4
                  · exact absurd h4 e
                  · omega
              refine ⟨by rw [over_size]; exact g1, fun i v hi hc => ?_⟩
              rw [over_get _ _ _ (by omega), if_neg (by omega)]
              exact g2 i v hi hc
            · rw [over_size] at hi
              exact hrow'.free i hi fun hm => hn (hfrz _ _ hm)
            · obtain ⟨x, hx, hsub, _⟩ := hstack _ x' hx'
              exact hrow'.ends x hx e (hsub _ he)
          | map es clock =>
            obtain ⟨es', h1, _⟩ := hold
            rw [eb, hrow.at'] at h1; cases h1
          | mapIter m since seen stepped =>
            obtain ⟨_, m', h1, _⟩ := hold
            rw [eb, hrow.at'] at h1; cases h1
          | strIter s pos =>
            have h1 := hold.2
            rw [eb, hrow.at'] at h1; cases h1
          | bag es =>
            obtain ⟨es', c', es1, h1, _⟩ := hold
            rw [eb, hrow.at'] at h1; cases h1
        · refine hold.later (Loc.le_refl ρ) (by simp [Ne.symm eb]) (hvalid _ _) (hfrz _) fun x' hx' e he => ?_
          obtain ⟨x, hx, hsub, _⟩ := hstack _ x' hx'
          exact ⟨x, hx, hsub _ he⟩
    · obtain ⟨o1, ho1, hc1, hp1⟩ := hcls' j ob ho
      obtain ⟨o2, ho2, hc2, hp2⟩ := hcls' j' ob' ho'
      rw [← hc1, ← hc2, ← hp1, ← hp2]
      exact hr.sep j j' q q' o1 o2 hj hj' hbb ho1 ho2
    · obtain ⟨o1, ho1, hc1, _⟩ := hcls' j ob ho
      obtain ⟨o2, ho2, hc2, _⟩ := hcls' j' ob' ho'
      exact hr.lone j j' o1 o2 ho1 ho2 (by rw [hc1, hc2]; exact hc) (by rw [hc1]; exact hnone _ hn)
    · rw [hG] at hgl; exact hr.glob g hgl
  · show (w.heap.setIfInBounds p.b _)[i]? = _
    rw [Array.getElem?_setIfInBounds, if_neg (by omega)]

/-! ### A new block -/

/-- What the true object of a new block must be. -/
def BornRel (_ : Program) (ρ : Loc) : Born → Obj → Prop
  | .row cells elem, ob => ∃ (c : Array Value) (fz : Nat × Nat), ob = .cells c elem fz ∧ cells.length ≤ c.size ∧ (∀ i : Nat, i < c.size → ¬ (fz.1 ≤ i ∧ i < fz.2)) ∧ (∀ (i : Nat) (x : Value), cells[i]? = some x → ∃ y : Value, c[i]? = some y ∧ VRel ρ x y)
  | .map, ob => ob = .map #[] 0
  | .mapIter m clock, ob => ∃ m', ob = .mapIter m' clock #[] clock ∧ MRel ρ m m'
  | .strIter s, ob => ob = .stringIter s 0

def objCells : Obj → Nat
  | .cells c _ _ => c.size
  | _ => 0

def bornSz (P : Program) : Born → Nat
  | .row _ elem => P.cellsOf elem
  | _ => 0

/-- The mapping behind a new block. -/
def Loc.ext (ρ : Loc) (k : Nat) (p : Pl) : Loc := fun j => if j = k then some p else ρ j

theorem Loc.le_ext {ρ : Loc} {k : Nat} {p : Pl} (h : ρ k = none) : ρ.le (ρ.ext k p) := fun j x hj => by
  unfold Loc.ext
  by_cases e : j = k
  · subst e; rw [h] at hj; cases hj
  · rw [if_neg e]; exact hj

theorem Grew.ext {ρ : Loc} {σ σ' : St} {p : Pl} (h : ρ σ.next = none) (hn : σ'.next = σ.next + 1) : Grew ρ (ρ.ext σ.next p) σ σ' :=
  ⟨Loc.le_ext h, fun j hj => by unfold Loc.ext; rw [if_neg (by omega)], by omega⟩

theorem Rel.fresh_none {N : Nat} {ρ : Loc} {σ : St} {w : World} (hr : Rel P N ρ σ w) : ρ σ.next = none := by
  cases h : ρ σ.next with
  | none => rfl
  | some p =>
    have := (hr.dom _ _ h).2.1
    omega

theorem Rel.fresh_heap {N : Nat} {ρ : Loc} {σ : St} {w : World} (hr : Rel P N ρ σ w) : σ.heap.get σ.next = none := by
  cases h : σ.heap.get σ.next with
  | none => rfl
  | some ob => have := (hr.above _ _ h).1; omega

theorem push_below {N : Nat} {w : World} {ob : Obj} {w' : World} (hN : N ≤ w.heap.size) (h : w'.heap = w.heap.push ob) (ho : w'.os = w.os) (ht : w'.tape = w.tape) (hu : w'.output = w.output) : Below N w w' :=
  ⟨ho, ht, hu, by rw [h]; simp, fun i hi => by rw [h, Array.getElem?_push, if_neg (by omega)]⟩

theorem new_sound {N : Nat} {ρ : Loc} {σ : St} {w w' : World} (hr : Rel P N ρ σ w) {b : Born} {ob : Obj} (hb : BornRel P ρ b ob) (hh : w'.heap = w.heap.push ob) :
    Rel P N (ρ.ext σ.next ⟨w.heap.size, 0, objCells ob, bornSz P b⟩) (σ.put (b.obj σ.next)) w' := by
  have hnone := hr.fresh_none
  have hnh := hr.fresh_heap
  have hle : ρ.le (ρ.ext σ.next ⟨w.heap.size, 0, objCells ob, bornSz P b⟩) := Loc.le_ext hnone
  have hext : ∀ j, j ≠ σ.next → ρ.ext σ.next ⟨w.heap.size, 0, objCells ob, bornSz P b⟩ j = ρ j := fun j hj => by unfold Loc.ext; rw [if_neg hj]
  have hself : ρ.ext σ.next ⟨w.heap.size, 0, objCells ob, bornSz P b⟩ σ.next = some ⟨w.heap.size, 0, objCells ob, bornSz P b⟩ := by unfold Loc.ext; rw [if_pos rfl]
  have hclsNew : (b.obj σ.next).clsOf σ.next = σ.next := by cases b <;> rfl
  have hposNew : (b.obj σ.next).posOf = 0 := by cases b <;> rfl
  have hget : ∀ j, (σ.put (b.obj σ.next)).heap.get j = if j = σ.next then some (b.obj σ.next) else σ.heap.get j := fun j => by show (σ.heap.set _ _).get j = _; rw [Tr.get_set]
  have hclsNone : σ.cls.get σ.next = none := by
    cases h : σ.cls.get σ.next with
    | none => rfl
    | some x => have := (hr.clsAbove _ _ h).1; omega
  have hat : ∀ i, i < w.heap.size → w'.heap[i]? = w.heap[i]? := fun i hi => by rw [hh, Array.getElem?_push, if_neg (by omega)]
  have hnew : w'.heap[w.heap.size]? = some ob := by rw [hh]; simp
  refine ⟨fun k p hk => ?_, fun k ob' ho => ?_, fun c x hx => ?_, fun k p ob' hk ho => ?_, fun k k' p p' o1 o2 hk hk' hbb ho ho' => ?_, fun k k' o1 o2 ho ho' hc hn => ?_, fun g hg => ?_, by rw [hh]; have := hr.size; simp; omega⟩
  · by_cases e : k = σ.next
    · subst e
      rw [hself] at hk
      cases hk
      exact ⟨by rw [hh]; simp, Nat.lt_succ_self _, fun _ _ => .inl hr.size⟩
    · rw [hext k e] at hk
      obtain ⟨h1, h2, h3⟩ := hr.dom k p hk
      exact ⟨by rw [hh]; simp; omega, Nat.lt_succ_of_lt h2, fun ob' ho' => by
        rw [hget, if_neg e] at ho'
        exact h3 ob' ho'⟩
  · rw [hget] at ho
    by_cases e : k = σ.next
    · rw [if_pos e] at ho
      cases ho
      subst e
      rw [hclsNew]
      exact ⟨Nat.lt_succ_self _, Nat.lt_succ_self _⟩
    · rw [if_neg e] at ho
      have := hr.above k ob' ho
      exact ⟨Nat.lt_succ_of_lt this.1, Nat.lt_succ_of_lt this.2⟩
  · have := hr.clsAbove c x hx
    exact ⟨Nat.lt_succ_of_lt this.1, fun k e hm => Nat.lt_succ_of_lt (this.2 k e hm)⟩
  · rw [hget] at ho
    by_cases e : k = σ.next
    · subst e
      rw [hself] at hk
      cases hk
      rw [if_pos rfl] at ho
      cases ho
      cases b with
      | row cells elem =>
        obtain ⟨c, fz, rfl, hle', hfz, hc⟩ := hb
        refine ⟨rfl, c, fz, ⟨hnew, rfl, Nat.zero_le _, fun _ => ⟨by simpa using hle', fun i v hi hv => ?_⟩, fun i hi _ => by simpa using hfz i (by simpa using hi), fun x hx => ?_, fun _ => rfl⟩⟩
        · rw [get_fillTr] at hv
          rw [if_pos (by omega)] at hv
          obtain ⟨y, hy, hrel⟩ := hc i v (by simpa using hv)
          exact ⟨y, by simpa using hy, hrel.mono hle⟩
        · have hx' : σ.cls.get σ.next = some x := hx
          rw [hclsNone] at hx'; cases hx'
      | map => exact ⟨#[], by rw [hnew, show ob = .map #[] 0 from hb], .nil⟩
      | mapIter m clock =>
        obtain ⟨m', rfl, hm⟩ := hb
        exact ⟨rfl, m', by rw [hnew], hm.mono hle⟩
      | strIter s => exact ⟨rfl, by rw [hnew, show ob = .stringIter s 0 from hb]⟩
    · rw [hext k e] at hk
      rw [if_neg e] at ho
      have hlt := (hr.dom k p hk).1
      exact (hr.obj k p ob' hk ho).later hle (hat _ hlt) id (fun _ a => a) fun x' hx' e' hm => ⟨x', hx', hm⟩
  · rw [hget] at ho ho'
    by_cases e : k = σ.next
    · by_cases e' : k' = σ.next
      · subst e
        subst e'
        rw [if_pos rfl] at ho ho'
        cases ho
        cases ho'
        rw [hself] at hk hk'
        cases hk
        cases hk'
        exact ⟨rfl, rfl⟩
      · subst e
        rw [hext k' e'] at hk'
        rw [hself] at hk
        cases hk
        have := (hr.dom k' p' hk').1
        simp only at hbb
        omega
    · by_cases e' : k' = σ.next
      · subst e'
        rw [hext k e] at hk
        rw [hself] at hk'
        cases hk'
        have := (hr.dom k p hk).1
        simp only at hbb
        omega
      · rw [hext k e] at hk
        rw [hext k' e'] at hk'
        rw [if_neg e] at ho
        rw [if_neg e'] at ho'
        exact hr.sep k k' p p' o1 o2 hk hk' hbb ho ho'
  · rw [hget] at ho ho'
    by_cases e : k = σ.next
    · by_cases e' : k' = σ.next
      · rw [e, e']
      · subst e
        rw [if_pos rfl] at ho
        cases ho
        rw [if_neg e'] at ho'
        rw [hclsNew] at hc
        have := (hr.above k' o2 ho').2
        omega
    · by_cases e' : k' = σ.next
      · subst e'
        rw [if_pos rfl] at ho'
        cases ho'
        rw [if_neg e] at ho
        rw [hclsNew] at hc
        have := (hr.above k o1 ho).2
        omega
      · rw [if_neg e] at ho
        rw [if_neg e'] at ho'
        exact hr.lone k k' o1 o2 ho ho' hc hn
  · obtain ⟨p, hp, h1⟩ := hr.glob g hg
    exact ⟨p, hle _ _ hp, h1⟩

/-! ### A map, or an iterator, turns -/

theorem put_sound {N : Nat} {ρ : Loc} {σ : St} {w w' : World} (hr : Rel P N ρ σ w) {k : Nat} {p : Pl} (hp : ρ k = some p) {ob ob' : AObj} (ho : σ.heap.get k = some ob) (hk : ob.clsOf k = k ∧ ob.posOf = 0)
    (hk' : ob'.clsOf k = k ∧ ob'.posOf = 0) (hno : ∀ c e f, w.heap[p.b]? ≠ some (.cells c e f)) (hrel : ORel P ρ { σ with heap := σ.heap.set ob' k } w' k p ob')
    (hh : ∀ i, i ≠ p.b → w'.heap[i]? = w.heap[i]?) (hs : w'.heap.size = w.heap.size) : Rel P N ρ { σ with heap := σ.heap.set ob' k } w' := by
  have hget : ∀ j, (σ.heap.set ob' k).get j = if j = k then some ob' else σ.heap.get j := fun j => by rw [Tr.get_set]
  have hback : ∀ j o1, (σ.heap.set ob' k).get j = some o1 → ∃ o, σ.heap.get j = some o ∧ o.clsOf j = o1.clsOf j ∧ o.posOf = o1.posOf := fun j o1 h => by
    rw [hget] at h
    by_cases e : j = k
    · subst e
      rw [if_pos rfl] at h
      cases h
      exact ⟨ob, ho, by rw [hk.1, hk'.1], by rw [hk.2, hk'.2]⟩
    · rw [if_neg e] at h; exact ⟨o1, h, rfl, rfl⟩
  have alone : ∀ j q o, ρ j = some q → σ.heap.get j = some o → q.b = p.b → j = k := fun j q o hj hoj hb => by
    obtain ⟨hc, _⟩ := hr.sep j k q p o ob hj hp hb hoj ho
    cases o with
    | row cells len elem cls pos =>
      obtain ⟨_, c, fz, hrow⟩ := hr.obj j q _ hj hoj
      exact absurd (by rw [← hb]; exact hrow.at') (hno c elem fz)
    | _ => rw [hk.1] at hc; exact hc
  refine ⟨fun j q hj => ?_, fun j o1 h => ?_, hr.clsAbove, fun j q o1 hj h => ?_, fun j j' q q' o1 o2 hj hj' hbb h h' => ?_, fun j j' o1 o2 h h' hc hn => ?_, hr.glob, by rw [hs]; exact hr.size⟩
  · obtain ⟨h1, h2, h3⟩ := hr.dom j q hj
    refine ⟨by rw [hs]; exact h1, h2, fun o1 ho1 => ?_⟩
    by_cases e : j = k
    · subst e
      rw [hget, if_pos rfl] at ho1
      cases ho1
      refine (h3 _ ho).imp id fun h i => ?_
      have := h i
      rw [hk.1] at this
      rw [hk'.1]
      exact this
    · rw [hget, if_neg e] at ho1
      exact h3 o1 ho1
  · obtain ⟨o, h1, h2, _⟩ := hback j o1 h
    rw [← h2]
    exact hr.above j o h1
  · rw [hget] at h
    by_cases e : j = k
    · subst e
      rw [if_pos rfl] at h
      cases h
      rw [hp] at hj
      cases hj
      exact hrel
    · rw [if_neg e] at h
      have hne : q.b ≠ p.b := fun hb => e (alone j q o1 hj h hb)
      exact (hr.obj j q o1 hj h).later (Loc.le_refl ρ) (hh _ hne) id (fun _ a => a) fun x' hx' e' hm => ⟨x', hx', hm⟩
  · obtain ⟨a1, h1, h2, h3⟩ := hback j o1 h
    obtain ⟨b1, g1, g2, g3⟩ := hback j' o2 h'
    rw [← h2, ← h3, ← g2, ← g3]
    exact hr.sep j j' q q' a1 b1 hj hj' hbb h1 g1
  · obtain ⟨a1, h1, h2, _⟩ := hback j o1 h
    obtain ⟨b1, g1, g2, _⟩ := hback j' o2 h'
    exact hr.lone j j' a1 b1 h1 g1 (by rw [h2, g2]; exact hc) (by rw [h2]; exact hn)

/-! ### A row that grows -/

theorem aGrow_inv {σ σ' : St} {k off size len n : Nat} {new : List Value} {elem : TypeId} {v : Value} (h : aGrow σ k off size len n new elem = some (v, σ')) :
    ∃ cells klen cls pos old, σ.heap.get k = some (.row cells klen elem cls pos) ∧ σ.valid k cls = true ∧ off + len * size ≤ klen ∧ readTr cells (len * size) off = some old ∧
      (clsAt σ cls k (pos + klen)).clear (pos + off + len * size) (n * size) = true ∧ v = .slice (some ⟨σ.next, 0, none⟩) (len + n) unk ∧ σ'.next = σ.next + 1 ∧ σ'.G = σ.G ∧
      ∃ klen', (∀ j, σ'.heap.get j = if j = σ.next then some (.row (fillTr new (len * size) (fillTr old 0 .nil)) ((len + n) * size) elem cls (pos + off))
          else if j = k then some (.row cells klen' elem cls pos) else σ.heap.get j) ∧ klen' ≤ klen ∧ off + len * size ≤ klen' ∧
        ∃ st, (∀ c, σ'.cls.get c = if c = cls then some { clsAt σ cls k (pos + klen) with stack := (σ.next, pos + off + len * size + n * size) :: st } else σ.cls.get c) ∧
          (∀ j e, (j, e) ∈ st → (j = k ∧ e = pos + klen' ∧ (e ≤ pos + off + len * size ∨ j = σ.next)) ∨ (j ≠ k ∧ (j, e) ∈ (clsAt σ cls k (pos + klen)).stack ∧ (e ≤ pos + off + len * size ∨ j = σ.next)) ∨
            (j = k ∧ (j, e) ∈ (clsAt σ cls k (pos + klen)).stack ∧ klen' = klen ∧ (e ≤ pos + off + len * size ∨ j = σ.next))) := by
  unfold aGrow at h
  split at h
  · rename_i cells klen kelem cls pos hg
    split at h
    · cases h
    · rename_i hc
      simp only [Bool.and_eq_true] at hc
      obtain ⟨⟨hval, hle⟩, hel⟩ := hc
      have hle := Nat.le_of_ble_eq_true hle
      obtain rfl : kelem = elem := Nat.eq_of_beq_eq_true hel
      split at h
      · cases h
      · rename_i old hold
        split at h
        · cases h
        · rename_i hcl
          cases hcut : inStack k (keepStack σ.next (pos + off + len * size) (clsAt σ cls k (pos + klen)).stack) with
          | true =>
            rw [hcut] at h
            simp only [Option.some.injEq, Prod.mk.injEq] at h
            obtain ⟨rfl, rfl⟩ := h
            refine ⟨cells, klen, cls, pos, old, hg, hval, hle, hold, hcl, rfl, rfl, rfl, klen, fun j => ?_, Nat.le_refl _, hle, keepStack σ.next (pos + off + len * size) (clsAt σ cls k (pos + klen)).stack, fun c => ?_, fun j e hm => ?_⟩
            · show (Tr.set _ _ _).get j = _
              rw [Tr.get_set]
              by_cases e : j = σ.next
              · rw [if_pos e, if_pos e]
              · rw [if_neg e, if_neg e]
                by_cases e2 : j = k
                · subst e2; rw [if_pos rfl]; exact hg
                · rw [if_neg e2]
            · show (Tr.set _ _ _).get c = _
              rw [Tr.get_set]
            · obtain ⟨h1, h2⟩ := (mem_keepStack _ _ _ _).1 hm
              by_cases e2 : j = k
              · exact .inr (.inr ⟨e2, h1, rfl, h2.symm⟩)
              · exact .inr (.inl ⟨e2, h1, h2.symm⟩)
          | false =>
            rw [hcut] at h
            simp only [Option.some.injEq, Prod.mk.injEq] at h
            obtain ⟨rfl, rfl⟩ := h
            refine ⟨cells, klen, cls, pos, old, hg, hval, hle, hold, hcl, rfl, rfl, rfl, off + len * size, fun j => ?_, hle, Nat.le_refl _, (k, pos + off + len * size) :: keepStack σ.next (pos + off + len * size) (clsAt σ cls k (pos + klen)).stack, fun c => ?_, fun j e hm => ?_⟩
            · show (Tr.set _ (Tr.set _ _ _) _).get j = _
              rw [Tr.get_set, Tr.get_set]
            · show (Tr.set _ _ _).get c = _
              rw [Tr.get_set]
            · cases hm with
              | head => exact .inl ⟨rfl, by omega, .inl (Nat.le_refl _)⟩
              | tail _ hm =>
                obtain ⟨h1, h2⟩ := (mem_keepStack _ _ _ _).1 hm
                by_cases e2 : j = k
                · subst e2
                  exact absurd ((inStack_iff _ _).2 ⟨e, hm⟩) (by rw [hcut]; simp)
                · exact .inr (.inl ⟨e2, h1, h2.symm⟩)
  · cases h

theorem clsAt_stack {N : Nat} {ρ : Loc} {σ : St} {w : World} (hr : Rel P N ρ σ w) {k : Nat} {cells : Tr Value} {klen elem cls pos : Nat} (hg : σ.heap.get k = some (.row cells klen elem cls pos)) {p : Pl} (hp : ρ k = some p) :
    ∀ j e, (j, e) ∈ (clsAt σ cls k (pos + klen)).stack → j < σ.next ∧ (j = k → e = pos + klen) ∧ (∀ x, σ.cls.get cls = some x → (j, e) ∈ x.stack) := by
  intro j e hm
  unfold clsAt at hm
  cases hx : σ.cls.get cls with
  | none =>
    rw [hx] at hm
    simp only [List.mem_singleton, Prod.mk.injEq] at hm
    obtain ⟨rfl, rfl⟩ := hm
    exact ⟨(hr.above _ _ hg).1, fun _ => rfl, fun x h => by cases h⟩
  | some x =>
    rw [hx] at hm
    obtain ⟨_, c, fz, hrow⟩ := hr.obj k p _ hp hg
    refine ⟨(hr.clsAbove cls x hx).2 j e hm, fun hj => ?_, fun y hy => ?_⟩
    · subst hj; exact hrow.ends x hx e hm
    · cases hy; exact hm

theorem clsAt_frozen {σ : St} {cls k e : Nat} {i : Nat} : (clsAt σ cls k e).frozenAt i ↔ σ.maybeFrozen cls i := by
  unfold clsAt St.maybeFrozen
  cases hx : σ.cls.get cls with
  | none =>
    constructor
    · rintro (h | ⟨_, h⟩)
      · cases h
      · simp at h
    · rintro ⟨x, h, _⟩; cases h
  | some x =>
    constructor
    · intro h; exact ⟨x, rfl, h⟩
    · rintro ⟨y, hy, h⟩; cases hy; exact h

theorem aGrow_next {σ σ' : St} {k off size len n : Nat} {new : List Value} {elem : TypeId} {v : Value} (h : aGrow σ k off size len n new elem = some (v, σ')) : σ'.next = σ.next + 1 := by
  obtain ⟨_, _, _, _, _, _, _, _, _, _, _, h, _⟩ := aGrow_inv h
  exact h

/-- THE GROWN ROW: its true cells lie at 'q', their first ones as the old row's and the new ones; of the old blocks nothing has turned but, where 'q' lies in the old row's block, what lies behind its end. -/
theorem aGrow_rel {N : Nat} {ρ : Loc} {σ σ' : St} {w w' : World} (hr : Rel P N ρ σ w) {k off size len n : Nat} {new : List Value} {elem : TypeId} {v : Value}
    (h : aGrow σ k off size len n new elem = some (v, σ')) (hn : new.length = n * size) {p q : Pl} (hp : ρ k = some p) (hsize : w.heap.size ≤ w'.heap.size)
    (hother : ∀ i, i ≠ p.b → i < w.heap.size → w'.heap[i]? = w.heap[i]?)
    (hsame : ∀ c e fz, w.heap[p.b]? = some (.cells c e fz) → ∃ c', w'.heap[p.b]? = some (.cells c' e fz) ∧ c'.size = c.size ∧ ∀ i, i < p.o + off + len * size → c'[i]? = c[i]?)
    (hq : (q.b = p.b ∧ q.o = p.o + off ∧ q.S = p.S) ∨ q.b = w.heap.size) (hqs : q.sz = P.cellsOf elem) (hqN : N ≤ q.b) (hq2 : q.b = w.heap.size → q.o = 0)
    (hnew : ∃ c fz, w'.heap[q.b]? = some (.cells c elem fz) ∧ c.size = q.S ∧ q.o + (len + n) * size ≤ c.size ∧
      (∀ i, q.o + i < c.size → ∀ cells klen cls pos, σ.heap.get k = some (.row cells klen elem cls pos) → ¬ σ.maybeFrozen cls (pos + off + i) → ¬ (fz.1 ≤ q.o + i ∧ q.o + i < fz.2)) ∧
      (∀ i x, i < len * size → (∀ cells klen cls pos, σ.heap.get k = some (.row cells klen elem cls pos) → cells.get (off + i) = some x) → ∃ y, c[q.o + i]? = some y ∧ VRel ρ x y) ∧
      (∀ i x, new[i]? = some x → ∃ y, c[q.o + len * size + i]? = some y ∧ VRel ρ x y)) :
    Rel P N (ρ.ext σ.next q) σ' w' := by
  obtain ⟨cells, klen, cls, pos, old, hg, hval, hle, hold, hcl, hv, hnext, hG, klen', hheap, hk1, hk2, st, hcls, hst⟩ := aGrow_inv h
  have hnone := hr.fresh_none
  have hnh := hr.fresh_heap
  have hkn : k ≠ σ.next := fun e => by rw [e, hnh] at hg; cases hg
  have hle' : ρ.le (ρ.ext σ.next q) := Loc.le_ext hnone
  have hext : ∀ j, j ≠ σ.next → ρ.ext σ.next q j = ρ j := fun j hj => by unfold Loc.ext; rw [if_neg hj]
  have hself : ρ.ext σ.next q σ.next = some q := by unfold Loc.ext; rw [if_pos rfl]
  obtain ⟨hsz, c0, fz0, hrow⟩ := hr.obj k p _ hp hg
  obtain ⟨hin, hcells⟩ := hrow.holds hval
  have hclsLt : cls < σ.next := (hr.above k _ hg).2
  have hpb : p.b < w.heap.size := (hr.dom k p hp).1
  have hmul : (len + n) * size = len * size + n * size := Nat.add_mul _ _ _
  obtain ⟨hlenOld, hreadOld⟩ := readTr_spec cells (len * size) off old hold
  have hqo : pos + off = 0 → q.o = 0 := fun h0 => by
    rcases hq with ⟨_, h1, _⟩ | h1
    · have := hrow.base (by omega)
      omega
    · exact hq2 h1
  have hback : ∀ j o1, j ≠ σ.next → σ'.heap.get j = some o1 → ∃ o, σ.heap.get j = some o ∧ o.clsOf j = o1.clsOf j ∧ o.posOf = o1.posOf := fun j o1 hj h1 => by
    rw [hheap, if_neg hj] at h1
    by_cases e : j = k
    · subst e
      rw [if_pos rfl] at h1
      cases h1
      exact ⟨_, hg, rfl, rfl⟩
    · rw [if_neg e] at h1; exact ⟨o1, h1, rfl, rfl⟩
  have hfor : ∀ j o, σ.heap.get j = some o → ∃ o1, σ'.heap.get j = some o1 ∧ o1.clsOf j = o.clsOf j := fun j o hj => by
    have hjn : j ≠ σ.next := fun e => by rw [e, hnh] at hj; cases hj
    rw [hheap, if_neg hjn]
    by_cases e : j = k
    · subst e
      rw [hg] at hj
      cases hj
      exact ⟨_, if_pos rfl, rfl⟩
    · rw [if_neg e]; exact ⟨o, hj, rfl⟩
  have hnewRow : σ'.heap.get σ.next = some (.row (fillTr new (len * size) (fillTr old 0 .nil)) ((len + n) * size) elem cls (pos + off)) := by rw [hheap, if_pos rfl]
  have hfrz : ∀ c i, σ.maybeFrozen c i → σ'.maybeFrozen c i := fun c i hf => by
    by_cases e : c = cls
    · rw [e] at hf ⊢
      exact ⟨{ clsAt σ cls k (pos + klen) with stack := (σ.next, pos + off + len * size + n * size) :: st }, by rw [hcls, if_pos rfl], (clsAt_frozen (k := k) (e := pos + klen)).2 hf⟩
    · obtain ⟨x, hx, h1⟩ := hf
      exact ⟨x, by rw [hcls, if_neg e]; exact hx, h1⟩
  have hfrz' : ∀ c i, σ'.maybeFrozen c i → σ.maybeFrozen c i := fun c i ⟨x, hx, hf⟩ => by
    rw [hcls] at hx
    by_cases e : c = cls
    · rw [if_pos e] at hx
      cases hx
      subst e
      exact (clsAt_frozen (k := k) (e := pos + klen)).1 hf
    · rw [if_neg e] at hx
      exact ⟨x, hx, hf⟩
  have hstk := clsAt_stack hr hg hp
  -- who may still be read, of the old blocks
  have hvalid : ∀ j c, j ≠ σ.next → σ'.valid j c = true → (c ≠ cls ∨ ∃ e, (j, e) ∈ st) := fun j c hj hv => by
    by_cases e : c = cls
    · right
      unfold St.valid at hv
      rw [hcls, if_pos e] at hv
      obtain ⟨e', he'⟩ := (inStack_iff _ _).1 hv
      cases he' with
      | head => exact absurd rfl hj
      | tail _ h => exact ⟨e', h⟩
    · exact .inl e
  have hvalidOld : ∀ j c, c ≠ cls → σ'.valid j c = true → σ.valid j c = true := fun j c hc hv => by
    unfold St.valid at hv ⊢
    rw [hcls, if_neg hc] at hv
    exact hv
  have hvalidSt : ∀ j e, (j, e) ∈ st → σ.valid j cls = true := fun j e hm => by
    have hin : (j = k) ∨ (j, e) ∈ (clsAt σ cls k (pos + klen)).stack := by
      rcases hst j e hm with ⟨h1, _⟩ | ⟨_, h1, _⟩ | ⟨h1, _⟩
      · exact .inl h1
      · exact .inr h1
      · exact .inl h1
    rcases hin with rfl | hin
    · exact hval
    · unfold St.valid
      cases hx : σ.cls.get cls with
      | none => rfl
      | some x => exact (inStack_iff _ _).2 ⟨e, (hstk j e hin).2.2 x hx⟩
  refine ⟨fun j t hj => ?_, fun j o1 ho => ?_, fun c x hx => ?_, fun j t o1 hj ho => ?_, fun j j' t t' o1 o2 hj hj' hbb ho ho' => ?_, fun j j' o1 o2 ho ho' hc hnn => ?_, fun g hgl => ?_, by have := hr.size; omega⟩
  · by_cases e : j = σ.next
    · subst e
      rw [hself] at hj
      cases hj
      refine ⟨?_, by omega, fun _ _ => .inl hqN⟩
      obtain ⟨c, fz, hat, _⟩ := hnew
      exact (Array.getElem?_eq_some_iff.1 hat).1
    · rw [hext j e] at hj
      obtain ⟨h1, h2, h3⟩ := hr.dom j t hj
      refine ⟨by omega, by omega, fun o1 ho1 => ?_⟩
      obtain ⟨o, hoj, hc1, _⟩ := hback j o1 e ho1
      exact (h3 o hoj).imp id fun h i => by rw [← hc1]; exact hfrz _ _ (h i)
  · rw [hnext]
    by_cases e : j = σ.next
    · subst e
      rw [hnewRow] at ho
      cases ho
      exact ⟨by omega, Nat.lt_succ_of_lt hclsLt⟩
    · obtain ⟨o, h1, h2, _⟩ := hback j o1 e ho
      rw [← h2]
      have := hr.above j o h1
      exact ⟨by omega, Nat.lt_succ_of_lt this.2⟩
  · rw [hcls] at hx
    rw [hnext]
    by_cases e : c = cls
    · rw [if_pos e] at hx
      cases hx
      refine ⟨by omega, fun j e' hm => ?_⟩
      cases hm with
      | head => omega
      | tail _ hm =>
        rcases hst j e' hm with ⟨rfl, _⟩ | ⟨_, h1, _⟩ | ⟨rfl, _⟩
        · have := (hr.above _ _ hg).1; omega
        · have := (hstk j e' h1).1; omega
        · have := (hr.above _ _ hg).1; omega
    · rw [if_neg e] at hx
      have := hr.clsAbove c x hx
      exact ⟨by omega, fun j e' hm => by have := this.2 j e' hm; omega⟩
  · by_cases e : j = σ.next
    · subst e
      rw [hself] at hj
      cases hj
      rw [hnewRow] at ho
      cases ho
      obtain ⟨c, fz, hat, hcs, hbd, hfr, hc1, hc2⟩ := hnew
      refine ⟨hqs, c, fz, ⟨hat, hcs, by omega, fun _ => ⟨hbd, fun i x hi hx => ?_⟩, fun i hi hnf => ?_, fun x hx e' hm => ?_, hqo⟩⟩
      · rw [get_fillTr] at hx
        by_cases h1 : len * size ≤ i ∧ i < len * size + new.length
        · rw [if_pos h1] at hx
          obtain ⟨y, hy, hrel⟩ := hc2 _ x hx
          exact ⟨y, by rw [← hy]; congr 1; omega, hrel.mono hle'⟩
        · rw [if_neg h1] at hx
          rw [get_fillTr, if_pos (by omega)] at hx
          obtain ⟨y, hy, hrel⟩ := hc1 i x (by omega) fun cells' klen'' cls' pos' hg' => by
            rw [hg] at hg'
            cases hg'
            exact hreadOld i (by omega) x (by simpa using hx)
          exact ⟨y, hy, hrel.mono hle'⟩
      · refine hfr i hi cells klen cls pos hg fun hm => hnf ?_
        exact hfrz _ _ hm
      · rw [hcls, if_pos rfl] at hx
        cases hx
        cases hm with
        | head => omega
        | tail _ hm =>
          rcases hst _ e' hm with ⟨h1, _⟩ | ⟨_, h1, _⟩ | ⟨h1, _⟩
          · exact absurd h1.symm hkn
          · have := (hstk _ e' h1).1; omega
          · exact absurd h1.symm hkn
    · rw [hext j e] at hj
      obtain ⟨o, hoj, hcl, hps⟩ := hback j o1 e ho
      have hold' := hr.obj j t o hj hoj
      -- the facts on the old block, as a row
      have rowCase : ∀ (cells' : Tr Value) (len' len1 : Nat) (elem' cls' pos' : Nat), σ.heap.get j = some (.row cells' len' elem' cls' pos') → len1 ≤ len' → (j ≠ k → len1 = len') → (j = k → len1 = klen') →
          ORel P (ρ.ext σ.next q) σ' w' j t (.row cells' len1 elem' cls' pos') := by
        intro cells' len' len1 elem' cls' pos' hrj hl1 hjk hjk2
        have hO := hr.obj j t _ hj hrj
        obtain ⟨hsz', c', fz', hrow'⟩ := hO
        have htb : t.b < w.heap.size := (hr.dom j t hj).1
        have hends : ∀ x, σ'.cls.get cls' = some x → ∀ e', (j, e') ∈ x.stack → e' = pos' + len1 := fun x hx e' hm => by
          rw [hcls] at hx
          by_cases ec : cls' = cls
          · rw [if_pos ec] at hx
            cases hx
            cases hm with
            | head => exact absurd rfl e
            | tail _ hm =>
              rcases hst j e' hm with ⟨h1, h2, _⟩ | ⟨h1, h2, _⟩ | ⟨h1, h2, h3, _⟩
              · subst h1
                rw [hg] at hrj
                cases hrj
                rw [hjk2 rfl]; exact h2
              · rw [hjk h1]
                subst ec
                cases hx0 : σ.cls.get cls' with
                | none =>
                  have := hr.lone j k _ _ hrj hg rfl hx0
                  exact absurd this h1
                | some x0 => exact hrow'.ends x0 hx0 e' ((hstk j e' h2).2.2 x0 hx0)
              · subst h1
                rw [hg] at hrj
                cases hrj
                rw [hjk2 rfl, h3]
                exact (hstk _ e' h2).2.1 rfl
          · rw [if_neg ec] at hx
            have h1 := hrow'.ends x hx e' hm
            by_cases ejk : j = k
            · subst ejk
              rw [hg] at hrj
              cases hrj
              exact absurd rfl ec
            · rw [hjk ejk]; exact h1
        have hvold : σ'.valid j cls' = true → σ.valid j cls' = true := fun hv' => by
          rcases hvalid j cls' e hv' with hc | ⟨e', hm⟩
          · exact hvalidOld j cls' hc hv'
          · by_cases ec : cls' = cls
            · rw [ec]; exact hvalidSt j e' hm
            · exact hvalidOld j cls' ec hv'
        by_cases etb : t.b = p.b
        · obtain ⟨hcc, hal⟩ := hr.sep j k t p _ _ hj hp etb hrj hg
          simp only [AObj.clsOf, AObj.posOf] at hcc hal
          subst hcc
          have := hrow'.at'
          rw [etb, hrow.at'] at this
          cases this
          obtain ⟨c1, hc1, hc1s, hc1e⟩ := hsame c0 elem fz0 hrow.at'
          refine ⟨hsz', c1, fz0, ⟨by rw [etb]; exact hc1, by rw [hc1s]; exact hrow'.size, by rw [hc1s]; exact hrow'.within, fun hv' => ?_, fun i hi hnf => ?_, hends, hrow'.base⟩⟩
          · obtain ⟨g1, g2⟩ := hrow'.holds (hvold hv')
            have hend : pos' + len1 ≤ pos + off + len * size := by
              rcases hvalid j _ e hv' with hc | ⟨e', hm⟩
              · exact absurd rfl hc
              · have he' : e' = pos' + len1 := hends _ (by rw [hcls, if_pos rfl]) e' (by simp [hm])
                rcases hst j e' hm with ⟨_, _, h3⟩ | ⟨_, _, h3⟩ | ⟨_, _, _, h3⟩ <;> rcases h3 with h3 | h3 <;> first | omega | exact absurd h3 e
            refine ⟨by rw [hc1s]; omega, fun i x hi hx => ?_⟩
            rw [hc1e _ (by omega)]
            obtain ⟨y, hy, hrel⟩ := g2 i x (by omega) hx
            exact ⟨y, hy, hrel.mono hle'⟩
          · rw [hc1s] at hi
            exact hrow'.free i hi fun hm => hnf (hfrz _ _ hm)
        · refine ⟨hsz', c', fz', ⟨by rw [hother _ etb htb]; exact hrow'.at', hrow'.size, hrow'.within, fun hv' => ?_, fun i hi hnf => hrow'.free i hi fun hm => hnf (hfrz _ _ hm), hends, hrow'.base⟩⟩
          obtain ⟨g1, g2⟩ := hrow'.holds (hvold hv')
          refine ⟨by omega, fun i x hi hx => ?_⟩
          obtain ⟨y, hy, hrel⟩ := g2 i x (by omega) hx
          exact ⟨y, hy, hrel.mono hle'⟩
      rw [hheap, if_neg e] at ho
      by_cases ejk : j = k
      · subst ejk
        rw [if_pos rfl] at ho
        cases ho
        exact rowCase cells klen klen' elem cls pos hg hk1 (fun h => absurd rfl h) (fun _ => rfl)
      · rw [if_neg ejk] at ho
        cases o1 with
        | row cells' len' elem' cls' pos' => exact rowCase cells' len' len' elem' cls' pos' ho (Nat.le_refl _) (fun _ => rfl) (fun h => absurd h ejk)
        | map es clock =>
          rw [hoj] at ho
          cases ho
          refine hold'.laterObj hle' (hother _ (fun hb => ?_) (hr.dom j t hj).1) rfl
          obtain ⟨es', h1, _⟩ := hold'
          rw [hb, hrow.at'] at h1; cases h1
        | mapIter m since seen stepped =>
          rw [hoj] at ho
          cases ho
          refine hold'.laterObj hle' (hother _ (fun hb => ?_) (hr.dom j t hj).1) rfl
          obtain ⟨_, m', h1, _⟩ := hold'
          rw [hb, hrow.at'] at h1; cases h1
        | strIter s ps =>
          rw [hoj] at ho
          cases ho
          refine hold'.laterObj hle' (hother _ (fun hb => ?_) (hr.dom j t hj).1) rfl
          have h1 : w.heap[t.b]? = some (.stringIter s ps) := hold'.2
          rw [hb, hrow.at'] at h1; cases h1
        | bag es =>
          rw [hoj] at ho
          cases ho
          refine hold'.laterObj hle' (hother _ (fun hb => ?_) (hr.dom j t hj).1) rfl
          obtain ⟨es', c', es1, h1, _⟩ := hold'
          rw [hb, hrow.at'] at h1; cases h1
  · by_cases e : j = σ.next
    · by_cases e' : j' = σ.next
      · subst e
        subst e'
        rw [hself] at hj hj'
        cases hj
        cases hj'
        rw [hnewRow] at ho ho'
        cases ho
        cases ho'
        exact ⟨rfl, rfl⟩
      · subst e
        rw [hself] at hj
        cases hj
        rw [hext j' e'] at hj'
        rw [hnewRow] at ho
        cases ho
        obtain ⟨o, hoj, hcl, hps⟩ := hback j' o2 e' ho'
        have hlt := (hr.dom j' t' hj').1
        rcases hq with ⟨q1, q2, q3⟩ | q1
        · obtain ⟨hcc, hal⟩ := hr.sep k j' p t' _ o hp hj' (by rw [← q1]; exact hbb) hg hoj
          have hal' : p.o + o.posOf = t'.o + pos := hal
          refine ⟨(show cls = _ from hcc).trans hcl, ?_⟩
          show q.o + o2.posOf = t'.o + (pos + off)
          rw [← hps]
          omega
        · omega
    · by_cases e' : j' = σ.next
      · subst e'
        rw [hself] at hj'
        cases hj'
        rw [hext j e] at hj
        rw [hnewRow] at ho'
        cases ho'
        obtain ⟨o, hoj, hcl, hps⟩ := hback j o1 e ho
        have hlt := (hr.dom j t hj).1
        rcases hq with ⟨q1, q2, q3⟩ | q1
        · obtain ⟨hcc, hal⟩ := hr.sep j k t p o _ hj hp (by rw [← q1]; exact hbb) hoj hg
          have hal' : t.o + pos = p.o + o.posOf := hal
          refine ⟨hcl.symm.trans (show _ = cls from hcc), ?_⟩
          show t.o + (pos + off) = q.o + o1.posOf
          rw [← hps]
          omega
        · omega
      · rw [hext j e] at hj
        rw [hext j' e'] at hj'
        obtain ⟨a1, h1, h2, h3⟩ := hback j o1 e ho
        obtain ⟨b1, g1, g2, g3⟩ := hback j' o2 e' ho'
        rw [← h2, ← h3, ← g2, ← g3]
        exact hr.sep j j' t t' a1 b1 hj hj' hbb h1 g1
  · have hcn : ∀ c, σ'.cls.get c = none → c ≠ cls ∧ σ.cls.get c = none := fun c hc' => by
      rw [hcls] at hc'
      by_cases e : c = cls
      · rw [if_pos e] at hc'; cases hc'
      · rw [if_neg e] at hc'; exact ⟨e, hc'⟩
    obtain ⟨n1, n2⟩ := hcn _ hnn
    by_cases e : j = σ.next
    · subst e
      rw [hnewRow] at ho
      cases ho
      exact absurd rfl n1
    · by_cases e' : j' = σ.next
      · subst e'
        rw [hnewRow] at ho'
        cases ho'
        exact absurd hc n1
      · obtain ⟨a1, h1, h2, _⟩ := hback j o1 e ho
        obtain ⟨b1, g1, g2, _⟩ := hback j' o2 e' ho'
        exact hr.lone j j' a1 b1 h1 g1 (by rw [h2, g2]; exact hc) (by rw [h2]; exact n2)
  · rw [hG] at hgl
    obtain ⟨t, ht, h1⟩ := hr.glob g hgl
    exact ⟨t, hle' _ _ ht, h1⟩

end
end Go.Ke
