/- Of package schema: CheckSchema answers OK for the schema of the law. No condition. -/
import Derived.Test.YtaikipdjknhjdaaGreatDoorSchema
namespace Go.Proofs
open Go.RowKit Go.Ke

theorem triple_len {α : Type} (f : Nat → List α) (m : Nat) (hf : ∀ j, (f j).length = m) : ∀ n, (upTo f n).length = n * m := by
  intro n
  induction n with
  | zero => show 0 = 0 * m; omega
  | succ n ih => rw [upTo_succ, List.length_append, ih, hf, Nat.succ_mul]

theorem triple_get {α : Type} (f : Nat → List α) (m : Nat) (hf : ∀ j, (f j).length = m) : ∀ {n j r : Nat}, j < n → r < m → (upTo f n)[j * m + r]? = (f j)[r]? := by
  intro n
  induction n with
  | zero => intro j r h; cases h
  | succ n ih =>
    intro j r h hr
    have hl := triple_len f m hf n
    rw [upTo_succ]
    by_cases e : j = n
    · subst e
      rw [List.getElem?_append_right (by omega), hl]
      congr 1
      omega
    · have : j * m + r < n * m := by
        have h1 : (j + 1) * m ≤ n * m := Nat.mul_le_mul_right m (by omega)
        rw [Nat.succ_mul] at h1
        omega
      rw [List.getElem?_append_left (by omega)]
      exact ih (by omega) hr

theorem _root_.Go.Ke.ForAt.cell {w : World} {nf fb cap : Nat} {xb : Nat → Nat} {tg : Nat → ByteArray} (h : ForAt w nf fb cap xb tg) {k : Nat} (hk : k < nf) :
    w.cell? ⟨fb, k * 3, none⟩ = some (.string ⟨#[UInt8.ofNat (102 + k)]⟩) ∧ w.cell? ⟨fb, k * 3 + 1, none⟩ = some (.slice (some ⟨xb k, 0, none⟩) 1 1) ∧ w.cell? ⟨fb, k * 3 + 2, none⟩ = some (.string (tg k)) := by
  obtain ⟨rest, fz, h1, _⟩ := h.tab
  have hl := triple_len (forV xb tg) 3 (fun _ => rfl) nf
  have hg : ∀ r, r < 3 → w.cell? ⟨fb, k * 3 + r, none⟩ = (forV xb tg k)[r]? := fun r hr => by
    rw [← triple_get (forV xb tg) 3 (fun _ => rfl) hk hr]
    simp only [World.cell?, h1, List.getElem?_toArray]
    rw [List.getElem?_append_left (by omega)]
    rfl
  exact ⟨hg 0 (by decide), hg 1 (by decide), hg 2 (by decide)⟩

/-- The box of a table. -/
def Schema.TBox (x : Schema) (i c : Nat) (w : World) : Prop := w.heap[c]? = some (.cells #[.string (nameL i), .slice (some ⟨x.cb i, 0, none⟩) 2 2, .slice (some ⟨x.kb i, 0, none⟩) 1 1, x.F i, .slice none 0 0] 39)

theorem Schema.TBox.cells {x : Schema} {i c : Nat} {w : World} (h : x.TBox i c w) : w.cell? ⟨c, 0, none⟩ = some (.string (nameL i)) ∧ w.cell? ⟨c, 1, none⟩ = some (.slice (some ⟨x.cb i, 0, none⟩) 2 2) ∧ w.cell? ⟨c, 2, none⟩ = some (.slice (some ⟨x.kb i, 0, none⟩) 1 1) ∧
    w.cell? ⟨c, 3, none⟩ = some (x.F i) ∧ w.cell? ⟨c, 4, none⟩ = some (.slice none 0 0) := by
  unfold Schema.TBox at h
  refine ⟨?_, ?_, ?_, ?_, ?_⟩ <;> simp [World.cell?, h]

set_option maxRecDepth 20000 in
theorem Tryz.c32 {x : Schema} {b c : Nat} {w : World} (h : x.At w) (hB : x.Box b w) {i : Nat} (hT : x.TBox i c w) (hi : i < x.n) {k : Nat} (hk : k < x.nf i) : Calls Tryz.prog 32 #[.int .i64 k, .pointer (some ⟨b, 0, none⟩), .pointer (some ⟨c, 0, none⟩)] w fun e w' => e = .returned (.int .i64 0) ∧ Below w.heap.size w w' := by
  have c0 := hB.cell
  obtain ⟨t0, t1, t2, t3, t4⟩ := hT.cells
  obtain ⟨m, hm⟩ : ∃ m, x.nf i = m + 1 := ⟨x.nf i - 1, by omega⟩
  have h2 := h.nf2 i hi
  obtain ⟨f0, f1, f2⟩ := (h.fors i hi (by omega)).cell hk
  have hc := fun (W : World) (hW : Below w.heap.size w W) => Tryz.foreignX (h.next hW) hi hk
  have hd : Below w.heap.size w w.drew := (Below.refl _ _).drew
  replace hc := hc w.drew hd
  unfold Schema.sl at c0
  unfold Schema.v Schema.tab Schema.fk at hc
  rw [Schema.F_succ hm] at t3 hc
  rw [hm] at hk h2
  clear h hB hT hm
  generalize m + 1 = q at *
  generalize (⟨#[UInt8.ofNat (102 + k)]⟩ : ByteArray) = s0 at *
  generalize nameL i = s1 at *
  generalize nameL (x.tg i k) = s2 at *
  have e0 : w.drew.cell? ⟨b, 0, none⟩ = _ := c0
  have g0 : w.drew.cell? ⟨c, 0, none⟩ = _ := t0
  have g1 : w.drew.cell? ⟨c, 1, none⟩ = _ := t1
  have g2 : w.drew.cell? ⟨c, 2, none⟩ = _ := t2
  have g3 : w.drew.cell? ⟨c, 3, none⟩ = _ := t3
  have g4 : w.drew.cell? ⟨c, 4, none⟩ = _ := t4
  have k0 : w.drew.cell? ⟨x.fb i, k * 3, none⟩ = _ := f0
  have k1 : w.drew.cell? ⟨x.fb i, k * 3 + 1, none⟩ = _ := f1
  have k2 : w.drew.cell? ⟨x.fb i, k * 3 + 2, none⟩ = _ := f2
  clear c0 t0 t1 t2 t3 t4 f0 f1 f2
  go_enter Tryz.func32, Tryz.ntmps32
  go_wp2_with fail
  refine wp_region_still_tail 7 tryz_mixed (by kernel_rfl) ?_
  change wpStill _ _ w.drew _ _ _
  simp only [List.take_succ_cons, List.take_zero, List.drop_succ_cons, List.drop_zero]
  still_step
  still_step
  still_step
  still_step
  still_step
  still_step
  still_step
  refine wpStill_nil ?_
  change wpList _ _ _ _ _ _
  go_wp2_with (first | (go_at_call 33; refine hc.mono ?_; rintro e w2 ⟨rfl, hb⟩))
  go_ret
  exact ⟨rfl, below_next hd hb⟩

end Go.Proofs

namespace Go.Proofs
open Go.RowKit Go.Ke

theorem heap_alloc_new' (w : World) (o : Obj) : (w.alloc o).heap[w.heap.size]? = some o := by unfold World.alloc; simp

theorem _root_.Go.Ke.SchAt.cell {w : World} {n tb cap : Nat} {cb kb : Nat → Nat} {F : Nat → Value} (h : SchAt w n tb cap cb kb F) {j : Nat} (hj : j < n) :
    w.cell? ⟨tb, j * 5, none⟩ = some (.string (nameL j)) ∧ w.cell? ⟨tb, j * 5 + 1, none⟩ = some (.slice (some ⟨cb j, 0, none⟩) 2 2) ∧ w.cell? ⟨tb, j * 5 + 2, none⟩ = some (.slice (some ⟨kb j, 0, none⟩) 1 1) ∧ w.cell? ⟨tb, j * 5 + 3, none⟩ = some (F j) ∧ w.cell? ⟨tb, j * 5 + 4, none⟩ = some (.slice none 0 0) := by
  obtain ⟨rest, fz, h1, _⟩ := h.tab
  have hl := triple_len (tabV cb kb F) 5 (fun _ => rfl) n
  have hg : ∀ r, r < 5 → w.cell? ⟨tb, j * 5 + r, none⟩ = (tabV cb kb F j)[r]? := fun r hr => by
    rw [← triple_get (tabV cb kb F) 5 (fun _ => rfl) hj hr]
    simp only [World.cell?, h1, List.getElem?_toArray]
    rw [List.getElem?_append_left (by omega)]
    rfl
  exact ⟨hg 0 (by decide), hg 1 (by decide), hg 2 (by decide), hg 3 (by decide), hg 4 (by decide)⟩

theorem Schema.F_slice (x : Schema) (i : Nat) : ∃ ad c, x.F i = .slice ad (x.nf i) c := by
  unfold Schema.F
  cases x.nf i with
  | zero => exact ⟨none, 0, rfl⟩
  | succ m => exact ⟨_, _, rfl⟩

set_option maxRecDepth 20000 in
theorem Tryz.c31 {x : Schema} {b : Nat} {w : World} (h : x.At w) (hB : x.Box b w) {i : Nat} (hi : i < x.n) : Calls Tryz.prog 31 #[.int .i64 i, .pointer (some ⟨b, 0, none⟩)] w fun e w' => e = .returned (.int .i64 0) ∧ Below w.heap.size w w' := by
  have c0 := hB.cell
  obtain ⟨t0, t1, t2, t3, t4⟩ := h.sch.cell hi
  have h6 := h.n6
  obtain ⟨ad, fc, hF⟩ := x.F_slice i
  rw [hF] at t3
  unfold Schema.sl at c0
  have hw0 : Below w.heap.size w (w.alloc (.cells #[.string (nameL i), .slice (some ⟨x.cb i, 0, none⟩) 2 2, .slice (some ⟨x.kb i, 0, none⟩) 1 1, .slice ad (x.nf i) fc, .slice none 0 0] 39)) := (Below.refl _ _).alloc (Nat.le_refl _) _
  have hT : x.TBox i w.heap.size (w.alloc (.cells #[.string (nameL i), .slice (some ⟨x.cb i, 0, none⟩) 2 2, .slice (some ⟨x.kb i, 0, none⟩) 1 1, .slice ad (x.nf i) fc, .slice none 0 0] 39)) := by
    unfold Schema.TBox
    rw [hF]
    exact heap_alloc_new' _ _
  generalize nameL i = s1 at t0 hw0 hT
  go_enter Tryz.func31, Tryz.ntmps31
  go_upto_region 2 with fail
  generalize w.alloc (.cells #[.string s1, .slice (some ⟨x.cb i, 0, none⟩) 2 2, .slice (some ⟨x.kb i, 0, none⟩) 1 1, .slice ad (x.nf i) fc, .slice none 0 0] 39) = W1 at hw0 hT ⊢
  have hA1 := h.next hw0
  have hB1 : x.Box b W1 := heap_kept hw0 hB
  have h2 := h.nf2 i hi
  have hk := Tryz.every32 (x.nf i) b w.heap.size W1 (by omega) fun k hk W hb => Tryz.c32 (hA1.next hb) (heap_kept hb hB1) (heap_kept hb hT) hi hk
  have t3' := hT.cells.2.2.2.1
  rw [hF] at t3'
  clear c0 t0 t1 t2 t3 t4 hT h hB hA1 hB1
  go_wp2_with (first | (go_at_call 27; refine hk.mono ?_; rintro e w2 ⟨rfl, hb⟩))
  go_ret
  exact ⟨rfl, below_next hw0 hb⟩

set_option maxRecDepth 20000 in
theorem Tryz.c30 {x : Schema} {b : Nat} {w : World} (h : x.At w) (hB : x.Box b w) : Calls Tryz.prog 30 #[.pointer (some ⟨b, 0, none⟩)] w fun e w' => e = .returned (.int .i64 0) ∧ Below w.heap.size w w' := by
  have c0 := hB.cell
  have hk := Tryz.every31 x.n b w (by have := h.n6; omega) fun k hk W hb => Tryz.c31 (h.next hb) (heap_kept hb hB) hk
  unfold Schema.sl at c0
  go_enter Tryz.func30, Tryz.ntmps30
  go_wp2_with (first | (go_at_call 27; refine hk.mono ?_; rintro e w2 ⟨rfl, hb⟩))
  go_ret
  exact ⟨rfl, hb⟩

end Go.Proofs

namespace Go.Proofs
open Go.RowKit Go.Ke

set_option maxRecDepth 20000 in
theorem Tryz.first2 {x : Schema} {b p : Nat} {w : World} {t : TypeId} {fz : Nat × Nat} (h : x.At w) (hB : x.Box b w) (hl : w.heap[p]? = some (.cells #[.func (.func 26) #[] #[.pointer (some ⟨b, 0, none⟩)], .func (.func 30) #[] #[.pointer (some ⟨b, 0, none⟩)]] t fz)) :
    Calls Tryz.prog 25 #[.slice (some ⟨p, 0, none⟩) 2 2] w fun e w' => e = .returned (.int .i64 0) ∧ Below w.heap.size w w' := by
  have l0 : w.cell? ⟨p, 0, none⟩ = some (.func (.func 26) #[] #[.pointer (some ⟨b, 0, none⟩)]) := by simp [World.cell?, hl]
  have hk := Tryz.c26 h hB
  go_enter Tryz.func25, Tryz.ntmps25
  go_wp2_with fail
  refine wp_loop_rounds 4 ?_
  rw [rounds_succ]
  go_wp2_with (first | (go_at_call 26; refine hk.mono ?_; rintro e w1 ⟨rfl, hb1⟩))
  have l1 : w1.cell? ⟨p, 1, none⟩ = some (.func (.func 30) #[] #[.pointer (some ⟨b, 0, none⟩)]) := by
    have := heap_kept hb1 hl
    simp [World.cell?, this]
  have hk2 := Tryz.c30 (h.next hb1) (show x.Box b w1 from heap_kept hb1 hB)
  rw [rounds_succ]
  go_wp2_with (first | (go_at_call 30; refine hk2.mono ?_; rintro e w2 ⟨rfl, hb2⟩))
  rw [rounds_succ]
  go_wp2_with fail
  go_ret
  exact ⟨rfl, below_next hb1 hb2⟩

set_option maxRecDepth 20000 in
theorem Tryz.checkSchema {x : Schema} {w : World} (h : x.At w) : Calls Tryz.prog 11 #[x.v] w fun e w' => e = .returned (.int .i64 0) ∧ Below w.heap.size w w' := by
  have hw0 : Below w.heap.size w (w.alloc (.cells #[.slice (some ⟨x.tb, 0, none⟩) x.n x.cap] 28)) := (Below.refl _ _).alloc (Nat.le_refl _) _
  have hB : x.Box w.heap.size (w.alloc (.cells #[.slice (some ⟨x.tb, 0, none⟩) x.n x.cap] 28)) := heap_alloc_new' _ _
  have h6 := h.n6
  unfold Schema.v
  go_enter Tryz.func11, Tryz.ntmps11
  go_upto_region 1 with fail
  generalize w.alloc (.cells #[.slice (some ⟨x.tb, 0, none⟩) x.n x.cap] 28) = W1 at hw0 hB ⊢
  have hA1 := h.next hw0
  have c0 := hB.cell
  unfold Schema.sl at c0
  go_upto_region 3 with fail
  have hw1 : ∀ o, Below W1.heap.size W1 (W1.alloc o) := fun o => (Below.refl _ _).alloc (Nat.le_refl _) _
  have hk := fun o ho => Tryz.first2 (p := W1.heap.size) (w := W1.alloc o) (t := 89) (fz := (0, 0)) (hA1.next (hw1 o)) (heap_kept (hw1 o) hB) ((heap_alloc_new' _ _).trans ho)
  go_wp2_with (first | (go_at_call 25; refine (hk _ rfl).mono ?_; rintro e w2 ⟨rfl, hb⟩))
  go_ret
  exact ⟨rfl, below_next hw0 (below_next (hw1 _) hb)⟩

end Go.Proofs
