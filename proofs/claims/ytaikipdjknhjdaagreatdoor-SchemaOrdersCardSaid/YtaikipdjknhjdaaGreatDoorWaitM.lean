/- Of package schema: a matrix of truths, circle, does a table wait for another. No condition. -/
import Derived.Test.YtaikipdjknhjdaaGreatDoorChkM
import Derived.Test.YtaikipdjknhjdaaGreatDoorPlan
namespace Go.Proofs
open Go.RowKit Go.Ke Go.Orders

/-- A matrix: a row of rows of truths. -/
structure MatAt (w : World) (mb : Nat) (rb : Nat → Nat) (n : Nat) (M : Mat) : Prop where
  rows : ∀ i, i < n → w.cell? ⟨mb, i, none⟩ = some (.slice (some ⟨rb i, 0, none⟩) n n)
  cells : ∀ i, i < n → ∀ j, j < n → w.cell? ⟨rb i, j, none⟩ = some (.bool (M i j))

theorem cell_kept {w w' : World} (hb : Below w.heap.size w w') {p o : Nat} {v : Value} (h : w.cell? ⟨p, o, none⟩ = some v) : w'.cell? ⟨p, o, none⟩ = some v := by
  have hlt : p < w.heap.size := by
    cases hp : w.heap[p]? with
    | none => simp [World.cell?, hp] at h
    | some o => exact (Array.getElem?_eq_some_iff.mp hp).1
  exact (hb.cell hlt).trans h

theorem MatAt.next {w w' : World} {mb : Nat} {rb : Nat → Nat} {n : Nat} {M : Mat} (h : MatAt w mb rb n M) (hb : Below w.heap.size w w') : MatAt w' mb rb n M :=
  ⟨fun i hi => cell_kept hb (h.rows i hi), fun i hi j hj => cell_kept hb (h.cells i hi j hj)⟩

set_option maxRecDepth 20000 in
theorem Tryz.circle {w : World} {g mb n : Nat} {rb : Nat → Nat} {R : Mat} (hM : MatAt w mb rb n R) (hg : w.cell? ⟨g, 0, none⟩ = some (.slice (some ⟨mb, 0, none⟩) n n)) (_hn : n ≤ 6) {i j : Nat} (hi : i < n) (hj : j < n) :
    Calls Tryz.prog 13 #[.int .i64 i, .int .i64 j, .pointer (some ⟨g, 0, none⟩)] w fun e w' => e = .returned (.bool (circ R i j)) ∧ w' = w := by
  have r1 := hM.rows i hi
  have r2 := hM.rows j hj
  have d1 := hM.cells i hi j hj
  have d2 := hM.cells j hj i hi
  unfold circ
  clear hM
  by_cases e : i = j
  · subst e
    go_enter Tryz.func13, Tryz.ntmps13
    go_wp2_with fail
    go_ret
    exact ⟨by simp, rfl⟩
  · have e1 : (i == j) = false := beq_eq_false_iff_ne.mpr e
    have e2 : ¬ (i : Int) = (j : Int) := by omega
    rw [e1]
    generalize R i j = u at *
    generalize R j i = v at *
    cases u
    · go_enter Tryz.func13, Tryz.ntmps13
      go_wp2_with fail
      go_ret
      exact ⟨by simp, rfl⟩
    · go_enter Tryz.func13, Tryz.ntmps13
      go_wp2_with fail
      go_ret
      exact ⟨by simp [e2], rfl⟩

end Go.Proofs

namespace Go.Proofs
open Go.RowKit Go.Ke Go.Orders

/-- What the closure looks at: the number of the table, which stand, the closure circle, the matrix. -/
structure WaitAt (w : World) (n i pi ps sb pc g mb : Nat) (rb : Nat → Nat) (R : Mat) (st : Nat → Bool) : Prop where
  num : w.cell? ⟨pi, 0, none⟩ = some (.int .i64 i)
  stands : w.cell? ⟨ps, 0, none⟩ = some (.slice (some ⟨sb, 0, none⟩) n n)
  truth : ∀ j, j < n → w.cell? ⟨sb, j, none⟩ = some (.bool (st j))
  circ : w.cell? ⟨pc, 0, none⟩ = some (.func (.func 13) #[] #[.pointer (some ⟨g, 0, none⟩)])
  box : w.cell? ⟨g, 0, none⟩ = some (.slice (some ⟨mb, 0, none⟩) n n)
  mat : MatAt w mb rb n R

theorem WaitAt.next {w w' : World} {n i pi ps sb pc g mb : Nat} {rb : Nat → Nat} {R : Mat} {st : Nat → Bool} (h : WaitAt w n i pi ps sb pc g mb rb R st) (hb : Below w.heap.size w w') : WaitAt w' n i pi ps sb pc g mb rb R st :=
  ⟨cell_kept hb h.num, cell_kept hb h.stands, fun j hj => cell_kept hb (h.truth j hj), cell_kept hb h.circ, cell_kept hb h.box, h.mat.next hb⟩

set_option maxRecDepth 20000 in
theorem Tryz.waits1 {x : Schema} {b : Nat} {w : World} (h : x.At w) (hB : x.Box b w) {i k : Nat} (hi : i < x.n) (hk : k < x.nf i) {pi ps sb pc g mb : Nat} {rb : Nat → Nat} {R : Mat} {st : Nat → Bool} (hW : WaitAt w x.n i pi ps sb pc g mb rb R st) :
    Calls Tryz.prog 15 #[x.fk i k, .pointer (some ⟨b, 0, none⟩), .pointer (some ⟨pi, 0, none⟩), .pointer (some ⟨ps, 0, none⟩), .pointer (some ⟨pc, 0, none⟩)] w fun e w' => e = .returned (.bool (!(x.tg i k == i) && (!st (x.tg i k) && !circ R i (x.tg i k)))) ∧ Below w.heap.size w w' := by
  have hj := h.tgs i hi k hk
  have h6 := h.n6
  have hc := fun (W : World) (hb : Below w.heap.size w W) => Tryz.tableAt (h.next hb).sch h6 hj
  have hq := fun (W : World) (hb : Below w.heap.size w W) => Tryz.circle (hW.next hb).mat (hW.next hb).box h6 hi hj
  have hw := fun (W : World) (hb : Below w.heap.size w W) => hW.next hb
  have hw0 : Below w.heap.size w (w.alloc (.cells #[.string ⟨#[UInt8.ofNat (102 + k)]⟩, .slice (some ⟨x.xb i k, 0, none⟩) 1 1, .string (nameL (x.tg i k))] 42)) := (Below.refl _ _).alloc (Nat.le_refl _) _
  have f2 : (w.alloc (.cells #[.string ⟨#[UInt8.ofNat (102 + k)]⟩, .slice (some ⟨x.xb i k, 0, none⟩) 1 1, .string (nameL (x.tg i k))] 42)).cell? ⟨w.heap.size, 2, none⟩ = some (.string (nameL (x.tg i k))) := by
    unfold World.cell?
    rw [heap_alloc_new']
    rfl
  unfold Schema.fk
  generalize (⟨#[UInt8.ofNat (102 + k)]⟩ : ByteArray) = s0 at *
  generalize nameL (x.tg i k) = s2 at *
  generalize x.tg i k = j at *
  have hst := fun (W : World) (hb : Below w.heap.size w W) => (hw W hb).truth j hj
  generalize circ R i j = u at *
  generalize st j = v at *
  generalize hz : (!(j == i) && (!v && !u)) = z
  replace hz := Lib.hid hz
  go_enter Tryz.func15, Tryz.ntmps15
  go_upto_region 1 with fail
  generalize w.alloc (.cells #[.string s0, .slice (some ⟨x.xb i k, 0, none⟩) 1 1, .string s2] 42) = W1 at hw0 f2 ⊢
  have c0 := (show x.Box b W1 from heap_kept hw0 hB).cell
  unfold Schema.sl at c0
  have hc1 := hc W1 hw0
  go_upto_region 2 with (first | (go_at_call 16; refine hc1.mono ?_; rintro e w2 ⟨rfl, hb⟩))
  have hw2 := below_next hw0 hb
  have hq2 := hq w2 hw2
  obtain ⟨a1, a2, a3, a4, _, _⟩ := hw w2 hw2
  have a5 := hst w2 hw2
  clear hc hq hw hc1 c0 f2 hB hW h a3 hst
  by_cases e : j = i
  · subst e
    go_wp2_with fail
    go_ret
    exact ⟨by rw [← hz.out]; simp, hw2⟩
  · have e2 : ¬ (j : Int) = (i : Int) := by omega
    have e1 : (j == i) = false := beq_eq_false_iff_ne.mpr e
    have e3 : ((j : Int) != (i : Int)) = true := bne_iff_ne.mpr e2
    cases v
    · go_wp2_with (first | (go_at_call 13; refine hq2.mono ?_; rintro e w3 ⟨rfl, rfl⟩))
      go_ret
      exact ⟨by rw [← hz.out, e1]; simp only; rfl, hw2⟩
    · go_wp2_with fail
      go_ret
      exact ⟨by rw [← hz.out]; simp, hw2⟩

end Go.Proofs

namespace Go.Proofs
open Go.RowKit Go.Ke Go.Orders

set_option maxRecDepth 20000 in
theorem Tryz.index15 {x : Schema} {w : World} (h : x.At w) {i : Nat} (hi : i < x.n) {b pi ps pc : Nat} {bs : Nat → Bool}
    (hcall : ∀ (k : Nat), k < x.nf i → ∀ W : World, Below w.heap.size w W → Calls Tryz.prog 15 #[x.fk i k, .pointer (some ⟨b, 0, none⟩), .pointer (some ⟨pi, 0, none⟩), .pointer (some ⟨ps, 0, none⟩), .pointer (some ⟨pc, 0, none⟩)] W fun e w' => e = .returned (.bool (bs k)) ∧ Below W.heap.size W w') :
    Calls Tryz.prog 34 #[x.F i, .func (.func 15) #[] #[.pointer (some ⟨b, 0, none⟩), .pointer (some ⟨pi, 0, none⟩), .pointer (some ⟨ps, 0, none⟩), .pointer (some ⟨pc, 0, none⟩)]] w fun e w' => ∃ z : Int, e = .returned (.int .i64 z) ∧ Hid (decide (0 ≤ z) = (List.range (x.nf i)).any bs) ∧ Below w.heap.size w w' := by
  have h2 := h.nf2 i hi
  cases hf : x.nf i with
  | zero =>
    rw [Schema.F_zero hf]
    go_enter Tryz.func34, Tryz.ntmps34
    go_wp2_with fail
    refine wp_loop_rounds 4 ?_
    rw [rounds_succ]
    go_wp2_with fail
    go_ret
    exact ⟨-1, rfl, Lib.hid (by simp), Below.refl _ _⟩
  | succ m =>
    have hA := fun (W : World) (hb : Below w.heap.size w W) => (h.next hb).fors i hi (by omega)
    rw [Schema.F_succ hf]
    rw [hf] at h2 hcall hA
    clear hf
    generalize m + 1 = q at *
    unfold Schema.fk at hcall
    go_enter Tryz.func34, Tryz.ntmps34
    go_wp2_with fail
    go_loopw [8] (fun v wr => ∃ k : Nat, v = .int .i64 k ∧ k ≤ q ∧ Below w.heap.size w wr ∧ Hid (∀ j, j < k → bs j = false)) (fun v _ => q - (intOf v).toNat)
    case atStart => exact ⟨0, rfl, Nat.zero_le _, Below.refl _ _, Lib.hid fun j hj => absurd hj (Nat.not_lt_zero j)⟩
    case round =>
      obtain ⟨k, rfl, hk, hwr, hsp⟩ := hrel
      by_cases hlt : k < q
      · obtain ⟨k0, k1, k2⟩ := (hA wr hwr).cell hlt
        have hc := hcall k hlt wr hwr
        generalize (⟨#[UInt8.ofNat (102 + k)]⟩ : ByteArray) = s0 at *
        generalize nameL (x.tg i k) = s2 at *
        generalize hbk : bs k = u at hc
        replace hbk := Lib.hid hbk
        cases u with
        | true =>
          go_wp2_with (first | (go_at_call 15; refine hc.mono ?_; rintro e w2 ⟨rfl, hb⟩))
          go_ret
          exact ⟨k, rfl, Lib.hid (by rw [List.any_eq_true.mpr ⟨k, List.mem_range.mpr hlt, hbk.out⟩]; simp), below_next hwr hb⟩
        | false =>
          go_wp2_with (first | (go_at_call 15; refine hc.mono ?_; rintro e w2 ⟨rfl, hb⟩))
          go_roundw
          case rel =>
            refine ⟨k + 1, by go_num, by omega, below_next hwr hb, Lib.hid fun j hj => ?_⟩
            by_cases e : j = k
            · rw [e]; exact hbk.out
            · exact hsp.out j (by omega)
          case measure => simp [intOf]; omega
      · have hkq : k = q := by omega
        go_wp2_with fail
        go_ret
        exact ⟨-1, rfl, Lib.hid (by
          have : (List.range q).any bs = false := List.any_eq_false.mpr fun j hj => by
            rw [hsp.out j (by have := List.mem_range.mp hj; omega)]; decide
          rw [this]; rfl), hwr⟩

set_option maxRecDepth 20000 in
theorem Tryz.contains15 {x : Schema} {w : World} (h : x.At w) {i : Nat} (hi : i < x.n) {b pi ps pc : Nat} {bs : Nat → Bool}
    (hcall : ∀ (k : Nat), k < x.nf i → ∀ W : World, Below w.heap.size w W → Calls Tryz.prog 15 #[x.fk i k, .pointer (some ⟨b, 0, none⟩), .pointer (some ⟨pi, 0, none⟩), .pointer (some ⟨ps, 0, none⟩), .pointer (some ⟨pc, 0, none⟩)] W fun e w' => e = .returned (.bool (bs k)) ∧ Below W.heap.size W w') :
    Calls Tryz.prog 14 #[x.F i, .func (.func 15) #[] #[.pointer (some ⟨b, 0, none⟩), .pointer (some ⟨pi, 0, none⟩), .pointer (some ⟨ps, 0, none⟩), .pointer (some ⟨pc, 0, none⟩)]] w fun e w' => e = .returned (.bool ((List.range (x.nf i)).any bs)) ∧ Below w.heap.size w w' := by
  have hk := Tryz.index15 h hi hcall
  generalize (List.range (x.nf i)).any bs = r at *
  generalize x.F i = v at *
  go_enter Tryz.func14, Tryz.ntmps14
  go_wp2_with (first | (go_at_call 34; refine hk.mono ?_; rintro e w2 ⟨z, rfl, hz, hb⟩))
  go_ret
  exact ⟨by rw [← hz.out]; first | rfl | simp, hb⟩

end Go.Proofs
