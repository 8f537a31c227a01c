/- A matrix of truths that a call writes. No condition. -/
import Derived.Test.YtaikipdjknhjdaaGreatDoorRowM
import Derived.Laws.OwnMore
namespace Go.Proofs
open Go.RowKit Go.Ke Go.Orders

theorem cell_set_ne {w : World} {g g' i j : Nat} {u v : Value} (h : g ≠ g') (hc : w.cell? ⟨g', j, none⟩ = some u) : (w.setCell ⟨g, i, none⟩ v).cell? ⟨g', j, none⟩ = some u := by
  unfold World.cell? at hc ⊢
  rw [block_set_ne h]
  exact hc

/-- wpStill, shut: the walk does not look through it. -/
structure Still (P : Program) (ops : Array Oper) (w : World) (Q : Act → Prop) (l : List Oper) (a : Act) : Prop where
  out : wpStill P ops w Q l a

theorem Still.nil {P : Program} {ops : Array Oper} {w : World} {Q : Act → Prop} {a : Act} (h : Q a) : Still P ops w Q [] a := ⟨h⟩

theorem Still.step {P : Program} {ops : Array Oper} {w : World} {Q : Act → Prop} {a : Act} {o : Oper} {rest : List Oper} (h : ∀ K : Act → Prop, (∀ a, Still P ops w Q rest a → K a) → if Region.wanted o (yielded ops a.tmps) then o.still P a w K else K (a.put o.dst undef)) : Still P ops w Q (o :: rest) a :=
  ⟨h _ fun _ h => h.out⟩

/-- An operation whose guard is not met. -/
theorem Still.skip {P : Program} {ops : Array Oper} {w : World} {Q : Act → Prop} {a : Act} {o : Oper} {rest : List Oper} (h : Region.wanted o (yielded ops a.tmps) = false) (hk : Still P ops w Q rest (a.put o.dst undef)) : Still P ops w Q (o :: rest) a := by
  refine ⟨?_⟩
  unfold wpStill
  rw [h]
  exact hk.out

/-- What follows the reads is hidden while they are walked. -/
theorem still_via {P : Program} {ops : Array Oper} {w : World} {Q : Act → Prop} {a : Act} {l : List Oper} (h : ∀ K : Act → Prop, (∀ a', Q a' → K a') → Still P ops w K l a) : wpStill P ops w Q l a := (h Q fun _ h => h).out

/-- A row of truths that may be written. -/
def Bools (w : World) (b n : Nat) (f : Nat → Bool) : Prop := ∃ cs, w.heap[b]? = some (.cells cs 4 (0, 0)) ∧ cs.size = n ∧ ∀ j, j < n → cs[j]? = some (.bool (f j))

theorem Bools.lt {w : World} {b n : Nat} {f : Nat → Bool} (h : Bools w b n f) : b < w.heap.size := by
  obtain ⟨cs, h1, _⟩ := h
  exact blk_lt h1

theorem Bools.keep {w w' : World} {b n : Nat} {f : Nat → Bool} (h : Bools w b n f) (hk : w'.heap[b]? = w.heap[b]?) : Bools w' b n f := by
  obtain ⟨cs, h1, h2⟩ := h
  exact ⟨cs, hk.trans h1, h2⟩

theorem Bools.cell {w : World} {b n : Nat} {f : Nat → Bool} (h : Bools w b n f) {j : Nat} (hj : j < n) : w.cell? ⟨b, j, none⟩ = some (.bool (f j)) ∧ w.frozen? ⟨b, j, none⟩ = false := by
  obtain ⟨cs, h1, h2, h3⟩ := h
  have := h3 j hj
  exact ⟨by simp [World.cell?, h1, this], by simp [World.frozen?, h1]⟩

theorem Bools.set {w : World} {b n : Nat} {f g : Nat → Bool} (h : Bools w b n f) {i : Nat} {v : Bool} (hv : v = g i) (hg : ∀ j, j ≠ i → g j = f j) : Bools (w.setCell ⟨b, i, none⟩ (.bool v)) b n g := by
  obtain ⟨cs, h1, h2, h3⟩ := h
  refine ⟨_, block_set h1, by rw [Array.size_setIfInBounds, h2], fun j hj => ?_⟩
  rw [Array.getElem?_setIfInBounds]
  by_cases e : i = j
  · subst e
    rw [if_pos rfl, if_pos (by omega), hv]
  · rw [if_neg e, hg j (fun h => e h.symm)]
    exact h3 j hj

theorem Bools.ext {w : World} {b n : Nat} {f g : Nat → Bool} (h : Bools w b n f) (hg : ∀ j, j < n → g j = f j) : Bools w b n g := by
  obtain ⟨cs, h1, h2, h3⟩ := h
  exact ⟨cs, h1, h2, fun j hj => by rw [hg j hj]; exact h3 j hj⟩

/-- The first m rows of a matrix that the call has made: all in blocks from B on. -/
structure Mx (B : Nat) (w : World) (mb : Nat) (rb : Nat → Nat) (n m : Nat) (M : Mat) : Prop where
  base : B ≤ mb
  rows : ∃ cs, w.heap[mb]? = some (.cells cs 54 (0, 0)) ∧ cs.size = n ∧ ∀ j, j < m → cs[j]? = some (.slice (some ⟨rb j, 0, none⟩) n n)
  lt : ∀ j, j < m → mb < rb j
  inj : ∀ i j, i < m → j < m → rb i = rb j → i = j
  cells : ∀ i, i < m → Bools w (rb i) n (M i)

theorem Mx.next {B : Nat} {w w' : World} {mb : Nat} {rb : Nat → Nat} {n m : Nat} {M : Mat} (h : Mx B w mb rb n m M) (hb : Below w.heap.size w w') : Mx B w' mb rb n m M := by
  obtain ⟨cs, h1, h2⟩ := h.rows
  exact ⟨h.base, ⟨cs, (hb.block _ (blk_lt h1)).trans h1, h2⟩, h.lt, h.inj, fun i hi => (h.cells i hi).keep (hb.block _ (h.cells i hi).lt)⟩

theorem Mx.ext {B : Nat} {w : World} {mb : Nat} {rb : Nat → Nat} {n m : Nat} {M M' : Mat} (h : Mx B w mb rb n m M) (hM : ∀ i j, i < m → j < n → M' i j = M i j) : Mx B w mb rb n m M' :=
  ⟨h.base, h.rows, h.lt, h.inj, fun i hi => (h.cells i hi).ext fun j hj => hM i j hi hj⟩

theorem Mx.row {B : Nat} {w : World} {mb : Nat} {rb : Nat → Nat} {n m : Nat} {M : Mat} (h : Mx B w mb rb n m M) {i : Nat} (hi : i < m) : w.cell? ⟨mb, i, none⟩ = some (.slice (some ⟨rb i, 0, none⟩) n n) := by
  obtain ⟨cs, h1, h2, h3⟩ := h.rows
  have := h3 i hi
  simp [World.cell?, h1, this]

/-- A truth is written. -/
theorem Mx.set {B : Nat} {w : World} {mb : Nat} {rb : Nat → Nat} {n m : Nat} {M M' : Mat} (h : Mx B w mb rb n m M) {i j : Nat} {v : Bool} (hi : i < m) (hv : v = M' i j) (hM : ∀ a b, a ≠ i ∨ b ≠ j → M' a b = M a b) : Mx B (w.setCell ⟨rb i, j, none⟩ (.bool v)) mb rb n m M' := by
  obtain ⟨cs, h1, h2, h3⟩ := h.rows
  have hl := h.lt i hi
  refine ⟨h.base, ⟨cs, (block_set_ne (by omega)).trans h1, h2, h3⟩, h.lt, h.inj, fun a ha => ?_⟩
  by_cases e : a = i
  · subst e
    exact (h.cells a ha).set hv fun b hb => hM a b (.inr hb)
  · refine ((h.cells a ha).keep (block_set_ne fun hr => e (h.inj a i ha hi hr.symm))).ext fun b _ => hM a b (.inl e)

/-- A new row. -/
theorem Mx.grow {B : Nat} {w : World} {mb : Nat} {rb : Nat → Nat} {n m : Nat} {M M' : Mat} (h : Mx B w mb rb n m M) {cs : Array Value} (hc : cs.size = n) (hc2 : ∀ j, j < n → cs[j]? = some (.bool (M' m j))) (hM : ∀ i j, i < m → j < n → M' i j = M i j) (hm : m < n) :
    Mx B ((w.alloc (.cells cs 4)).setCell ⟨mb, m, none⟩ (.slice (some ⟨w.heap.size, 0, none⟩) n n)) mb (fun j => if j = m then w.heap.size else rb j) n (m + 1) M' := by
  obtain ⟨ms, h1, h2, h3⟩ := h.rows
  have hmb := blk_lt h1
  have hmb1 : (w.alloc (.cells cs 4)).heap[mb]? = some (.cells ms 54 (0, 0)) := (heap_alloc_old w _ hmb).trans h1
  refine ⟨h.base, ⟨_, block_set hmb1, by rw [Array.size_setIfInBounds, h2], fun j hj => ?_⟩, fun j hj => ?_, fun i j hi hj e => ?_, fun i hi => ?_⟩
  · rw [Array.getElem?_setIfInBounds]
    by_cases e : m = j
    · subst e
      rw [if_pos rfl, if_pos (by omega), if_pos rfl]
    · rw [if_neg e, if_neg (fun h => e h.symm)]
      exact h3 j (by omega)
  · by_cases e : j = m
    · rw [if_pos e]; exact hmb
    · rw [if_neg e]; exact h.lt j (by omega)
  · by_cases e1 : i = m
    · by_cases e2 : j = m
      · omega
      · rw [if_pos e1, if_neg e2] at e
        have := (h.cells j (by omega)).lt
        omega
    · by_cases e2 : j = m
      · rw [if_neg e1, if_pos e2] at e
        have := (h.cells i (by omega)).lt
        omega
      · rw [if_neg e1, if_neg e2] at e
        exact h.inj i j (by omega) (by omega) e
  · by_cases e : i = m
    · subst e
      rw [if_pos rfl]
      exact ⟨cs, (block_set_ne (by omega)).trans (heap_alloc_new' w _), hc, hc2⟩
    · rw [if_neg e]
      have h4 := h.cells i (by omega)
      have := h.lt i (by omega)
      exact (h4.keep ((block_set_ne (by omega)).trans (heap_alloc_old w _ h4.lt))).ext fun j hj => hM i j (by omega) hj

theorem Mx.hole {B : Nat} {w : World} {mb : Nat} {rb : Nat → Nat} {n m : Nat} {M : Mat} (h : Mx B w mb rb n m M) {i : Nat} (hi : i < n) : ∃ v, ∀ o, (w.alloc o).cell? ⟨mb, i, none⟩ = some v ∧ (w.alloc o).frozen? ⟨mb, i, none⟩ = false := by
  obtain ⟨ms, h1, h2, h3⟩ := h.rows
  refine ⟨ms[i]'(by omega), fun o => ?_⟩
  have h4 := (heap_alloc_old w o (blk_lt h1)).trans h1
  exact ⟨by simp [World.cell?, h4, h2, hi], by simp [World.frozen?, h4]⟩

/-- What is done is a matrix. -/
theorem Mx.mat {B : Nat} {w : World} {mb : Nat} {rb : Nat → Nat} {n : Nat} {M : Mat} (h : Mx B w mb rb n n M) : MatAt w mb rb n M :=
  ⟨fun _ hi => h.row hi, fun i hi _ hj => ((h.cells i hi).cell hj).1⟩

/-! ### Foreign keys -/

/-- Of each table the tables that it refers to. -/
def Schema.gs (x : Schema) : List (List Nat) := (List.range x.n).map fun i => (List.range (x.nf i)).map (x.tg i)

theorem Schema.targets {x : Schema} {i : Nat} (hi : i < x.n) : targets x.gs i = (List.range (x.nf i)).map (x.tg i) := by
  unfold Orders.targets Schema.gs
  rw [List.getD_eq_getElem?_getD]
  simp [hi]

theorem Schema.gs_len (x : Schema) : x.gs.length = x.n := by unfold Schema.gs; simp

theorem Schema.At.right {x : Schema} {w : World} (h : x.At w) : Right x.gs (reach x.gs) x.n := by
  have := reach_right (gs := x.gs) fun g hg j hj => by
    unfold Schema.gs at hg
    rw [List.mem_map] at hg
    obtain ⟨i, hi, rfl⟩ := hg
    rw [List.mem_map] at hj
    obtain ⟨k, hk, rfl⟩ := hj
    rw [x.gs_len]
    exact h.tgs i (List.mem_range.mp hi) k (List.mem_range.mp hk)
  rwa [x.gs_len] at this

/-- Row m is under way: the first k foreign keys are in. -/
def part (gs : List (List Nat)) (m k : Nat) : Mat := fun i j => if i = m then ((targets gs m).take k).contains j else adj gs i j

theorem part_zero (gs : List (List Nat)) (m j : Nat) : part gs m 0 m j = false := by unfold part; simp
theorem part_old (gs : List (List Nat)) {m k i : Nat} (h : i ≠ m) (j : Nat) : part gs m k i j = adj gs i j := by unfold part; rw [if_neg h]
theorem part_full {x : Schema} {m : Nat} (h : m < x.n) (i j : Nat) : adj x.gs i j = part x.gs m (x.nf m) i j := by
  unfold part
  by_cases e : i = m
  · subst e
    rw [if_pos rfl, List.take_of_length_le (by rw [Schema.targets h]; simp)]
    rfl
  · rw [if_neg e]
theorem part_next {x : Schema} {m k : Nat} (h : m < x.n) (hk : k < x.nf m) (a b : Nat) : part x.gs m (k + 1) a b = if a = m ∧ b = x.tg m k then true else part x.gs m k a b := by
  unfold part
  by_cases e : a = m
  · subst e
    rw [if_pos rfl, Schema.targets h, List.take_add_one, List.contains_append]
    have : ((List.range (x.nf a)).map (x.tg a))[k]?.toList = [x.tg a k] := by simp [hk]
    rw [this]
    by_cases e2 : b = x.tg a k
    · subst e2; simp
    · simp [e2]
  · rw [if_neg e, if_neg (fun h => e h.1), if_neg e]

theorem Tryz.info4' : (Tryz.prog.info? 4).map (fun i => (i.zero, i.size, i.bytes)) = some (some (.bool false), 1, 1) := by kernel_rfl
theorem Tryz.info54' : (Tryz.prog.info? 54).map (fun i => (i.zero, i.size, i.bytes)) = some (some (.slice none 0 0), 1, 24) := by kernel_rfl
theorem Tryz.under54 : Tryz.prog.underlying 54 = some (.slice 4) := by kernel_rfl
theorem Tryz.under52 : Tryz.prog.underlying 52 = some (.slice 54) := by kernel_rfl

theorem make_cells {t e : TypeId} {z : Value} {b : Nat} (ht : Tryz.prog.underlying t = some (.slice e)) (hi : (Tryz.prog.info? e).map (fun i => (i.zero, i.size, i.bytes)) = some (some z, 1, b)) (hz : z.cells = #[z]) {n : Nat} (hn : n ≤ 6) (hb : b ≤ 100) :
    ∃ cs : Array Value, cs.size = n ∧ (∀ j, j < n → cs[j]? = some z) ∧ ∀ w : World, (Instr.makeSlice t (.int .i64 n) (.int .i64 n)).run Tryz.prog w = .ok (.slice (some ⟨w.heap.size, 0, none⟩) n n) (w.alloc (.cells cs e)) := by
  obtain ⟨i, hi1, hz1, hs1, hb1⟩ := info_parts hi
  refine ⟨madeCells z.cells (n * 1), by rw [size_madeCells]; omega, fun j hj => ?_, fun w => ?_⟩
  · rw [hz]
    have h1 := toList_madeCells_one z (n * 1)
    rw [← Array.getElem?_toList, h1, List.getElem?_replicate, if_pos (by omega)]
  · have hr := run_make (P := Tryz.prog) w t e i z ht hi1 hz1 .i64 .i64 n n (by omega) (Int.le_refl _) (by rw [hb1, ← Int.natCast_mul]; have := Nat.mul_le_mul hb hn; omega) (by omega)
    rw [hs1] at hr
    simpa only [Int.toNat_natCast] using hr

end Go.Proofs
