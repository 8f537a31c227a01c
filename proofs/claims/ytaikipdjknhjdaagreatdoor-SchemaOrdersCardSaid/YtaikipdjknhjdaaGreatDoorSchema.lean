/- The schema of the law, whole: its tables with their foreign keys. No condition. -/
import Derived.Test.YtaikipdjknhjdaaGreatDoorEvery
namespace Go.Proofs
open Go.RowKit Go.Ke

/-- Where the schema lies: its tables, of each its columns, its key, its foreign keys (how many; the block; its capacity; their columns; the tables they refer to). -/
structure Schema where
  n : Nat
  tb : Nat
  cap : Nat
  cb : Nat → Nat
  kb : Nat → Nat
  nf : Nat → Nat
  fb : Nat → Nat
  fc : Nat → Nat
  xb : Nat → Nat → Nat
  tg : Nat → Nat → Nat

def Schema.F (x : Schema) (i : Nat) : Value := match x.nf i with
  | 0 => .slice none 0 0
  | m + 1 => .slice (some ⟨x.fb i, 0, none⟩) (m + 1) (x.fc i)

def Schema.sl (x : Schema) : Value := .slice (some ⟨x.tb, 0, none⟩) x.n x.cap
def Schema.v (x : Schema) : Value := .agg #[.slice (some ⟨x.tb, 0, none⟩) x.n x.cap]

structure Schema.At (x : Schema) (w : World) : Prop where
  n6 : x.n ≤ 6
  sch : SchAt w x.n x.tb x.cap x.cb x.kb x.F
  nf2 : ∀ i, i < x.n → x.nf i ≤ 2
  fors : ∀ i, i < x.n → 0 < x.nf i → ForAt w (x.nf i) (x.fb i) (x.fc i) (x.xb i) fun k => nameL (x.tg i k)
  tgs : ∀ i, i < x.n → ∀ k, k < x.nf i → x.tg i k < x.n
  nd : ∀ i, i < x.n → 0 < x.nf i → (bsOf x.n x.tb x.cb x.kb ++ x.fb i :: upTo (fun k => [x.xb i k]) (x.nf i)).Nodup

theorem heap_kept {w w' : World} (hb : Below w.heap.size w w') {b : Nat} {o : Obj} (h : w.heap[b]? = some o) : w'.heap[b]? = some o :=
  (hb.block b (Array.getElem?_eq_some_iff.mp h).1).trans h

theorem _root_.Go.Ke.SchAt.next {w w' : World} {n tb cap : Nat} {cb kb : Nat → Nat} {F : Nat → Value} (h : SchAt w n tb cap cb kb F) (hb : Below w.heap.size w w') : SchAt w' n tb cap cb kb F := by
  obtain ⟨rest, fz, h1, h2⟩ := h.tab
  refine ⟨⟨rest, fz, heap_kept hb h1, h2⟩, h.le, fun j hj => ?_, fun j hj => ?_, h.nodup, h.any⟩
  · obtain ⟨fz, h3⟩ := h.cols j hj
    exact ⟨fz, heap_kept hb h3⟩
  · obtain ⟨fz, h3⟩ := h.keys j hj
    exact ⟨fz, heap_kept hb h3⟩

theorem _root_.Go.Ke.ForAt.next {w w' : World} {nf fb cap : Nat} {xb : Nat → Nat} {tg : Nat → ByteArray} (h : ForAt w nf fb cap xb tg) (hb : Below w.heap.size w w') : ForAt w' nf fb cap xb tg := by
  obtain ⟨rest, fz, h1, h2⟩ := h.tab
  refine ⟨⟨rest, fz, heap_kept hb h1, h2⟩, h.le, fun j hj => ?_⟩
  obtain ⟨fz, h3⟩ := h.cols j hj
  exact ⟨fz, heap_kept hb h3⟩

theorem Schema.At.next {x : Schema} {w w' : World} (h : x.At w) (hb : Below w.heap.size w w') : x.At w' :=
  ⟨h.n6, h.sch.next hb, h.nf2, fun i hi h0 => (h.fors i hi h0).next hb, h.tgs, h.nd⟩

theorem Schema.F_zero {x : Schema} {i : Nat} (h : x.nf i = 0) : x.F i = .slice none 0 0 := by unfold Schema.F; rw [h]
theorem Schema.F_succ {x : Schema} {i m : Nat} (h : x.nf i = m + 1) : x.F i = .slice (some ⟨x.fb i, 0, none⟩) (m + 1) (x.fc i) := by unfold Schema.F; rw [h]

theorem Tryz.tableX {x : Schema} {w : World} (h : x.At w) {i : Nat} (hi : i < x.n) : Calls Tryz.prog 29 #[x.v, .int .i64 i] w fun e w' => e = .returned (.int .i64 0) ∧ Below w.heap.size w w' := by
  have h2 := h.nf2 i hi
  cases hf : x.nf i with
  | zero => exact Tryz.table0 h.sch h.n6 hi (Schema.F_zero hf)
  | succ m =>
    have hA := h.fors i hi (by omega)
    have hn := h.nd i hi (by omega)
    rw [hf] at hA hn
    exact Tryz.table h.sch h.n6 hi (by omega) hA (Schema.F_succ hf) hn

/-- A foreign key. -/
def Schema.fk (x : Schema) (i k : Nat) : Value := .agg #[.string ⟨#[UInt8.ofNat (102 + k)]⟩, .slice (some ⟨x.xb i k, 0, none⟩) 1 1, .string (nameL (x.tg i k))]
/-- A table. -/
def Schema.tab (x : Schema) (i : Nat) : Value := .agg #[.string (nameL i), .slice (some ⟨x.cb i, 0, none⟩) 2 2, .slice (some ⟨x.kb i, 0, none⟩) 1 1, x.F i, .slice none 0 0]

theorem Tryz.foreignX {x : Schema} {w : World} (h : x.At w) {i k : Nat} (hi : i < x.n) (hk : k < x.nf i) : Calls Tryz.prog 33 #[x.v, x.tab i, x.fk i k] w fun e w' => e = .returned (.int .i64 0) ∧ Below w.heap.size w w' := by
  have hA := h.fors i hi (by omega)
  have hn := h.nd i hi (by omega)
  obtain ⟨fz, hx⟩ := hA.cols k hk
  refine Tryz.foreign h.sch h.n6 hi (h.tgs i hi k hk) hx (fun hm => ?_) rfl
  have hm2 : x.xb i k ∈ x.fb i :: upTo (fun k => [x.xb i k]) (x.nf i) := List.mem_cons_of_mem _ (List.mem_of_getElem? (single_get (x.xb i) hk))
  exact (List.nodup_append.mp hn).2.2 _ hm _ hm2 rfl

/-- The box of the schema. -/
def Schema.Box (x : Schema) (b : Nat) (w : World) : Prop := w.heap[b]? = some (.cells #[.slice (some ⟨x.tb, 0, none⟩) x.n x.cap] 28)

theorem Schema.Box.cell {x : Schema} {b : Nat} {w : World} (h : x.Box b w) : w.cell? ⟨b, 0, none⟩ = some x.sl := by
  unfold Schema.Box at h
  simp [World.cell?, h, Schema.sl]

set_option maxRecDepth 20000 in
theorem Tryz.c28 {x : Schema} {b : Nat} {w : World} (h : x.At w) (hB : x.Box b w) {i : Nat} (hi : i < x.n) : Calls Tryz.prog 28 #[.int .i64 i, .pointer (some ⟨b, 0, none⟩)] w fun e w' => e = .returned (.int .i64 0) ∧ Below w.heap.size w w' := by
  have c0 := hB.cell
  have hk := Tryz.tableX h hi
  unfold Schema.sl at c0
  unfold Schema.v at hk
  go_enter Tryz.func28, Tryz.ntmps28
  go_wp2_with (first | (go_at_call 29; refine hk.mono ?_; rintro e w2 ⟨rfl, hb⟩))
  go_ret
  exact ⟨rfl, hb⟩

set_option maxRecDepth 20000 in
theorem Tryz.c26 {x : Schema} {b : Nat} {w : World} (h : x.At w) (hB : x.Box b w) : Calls Tryz.prog 26 #[.pointer (some ⟨b, 0, none⟩)] w fun e w' => e = .returned (.int .i64 0) ∧ Below w.heap.size w w' := by
  have c0 := hB.cell
  have hk := Tryz.every28 x.n b w (by have := h.n6; omega) fun k hk W hb => Tryz.c28 (h.next hb) (heap_kept hb hB) hk
  unfold Schema.sl at c0
  go_enter Tryz.func26, Tryz.ntmps26
  go_wp2_with (first | (go_at_call 27; refine hk.mono ?_; rintro e w2 ⟨rfl, hb⟩))
  go_ret
  exact ⟨rfl, hb⟩

end Go.Proofs
