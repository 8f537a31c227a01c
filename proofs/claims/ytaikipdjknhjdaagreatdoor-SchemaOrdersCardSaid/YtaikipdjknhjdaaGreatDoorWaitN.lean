/- Of the document's package: does a table wait for another. No condition. -/
import Derived.Test.YtaikipdjknhjdaaGreatDoorMx
import Derived.Test.YtaikipdjknhjdaaGreatDoorWaitM
namespace Go.Proofs
open Go.RowKit Go.Ke Go.Orders

/-- What the closure looks at: the number of the table, the names so far, the matrix. -/
structure WaitR (w : World) (n i pi po : Nat) (ad : Option Addr) (l : List ByteArray) (ca g mb : Nat) (rb : Nat → Nat) (R : Mat) : Prop where
  num : w.cell? ⟨pi, 0, none⟩ = some (.int .i64 i)
  ord : w.cell? ⟨po, 0, none⟩ = some (.slice ad l.length ca)
  strs : StrsAt w ad l
  box : w.cell? ⟨g, 0, none⟩ = some (.slice (some ⟨mb, 0, none⟩) n n)
  mat : MatAt w mb rb n R

theorem WaitR.next {w w' : World} {n i pi po : Nat} {ad : Option Addr} {l : List ByteArray} {ca g mb : Nat} {rb : Nat → Nat} {R : Mat} (h : WaitR w n i pi po ad l ca g mb rb R) (hb : Below w.heap.size w w') : WaitR w' n i pi po ad l ca g mb rb R :=
  ⟨cell_kept hb h.num, cell_kept hb h.ord, h.strs.next hb, cell_kept hb h.box, h.mat.next hb⟩

set_option maxRecDepth 20000 in
set_option maxHeartbeats 2000000 in
theorem Tryz.waitsR {x : Schema} {b : Nat} {w : World} (h : x.At w) (hB : x.Box b w) {i k : Nat} (hi : i < x.n) (hk : k < x.nf i) {pi po ca g mb : Nat} {ad : Option Addr} {l : List ByteArray} {rb : Nat → Nat} {R : Mat} (hW : WaitR w x.n i pi po ad l ca g mb rb R) (hl : l.length ≤ 1000000) :
    Calls Tryz.prog 19 #[x.fk i k, .pointer (some ⟨b, 0, none⟩), .pointer (some ⟨pi, 0, none⟩), .pointer (some ⟨po, 0, none⟩), .pointer (some ⟨g, 0, none⟩)] w fun e w' => e = .returned (.bool (!(x.tg i k == i) && (!(l.any fun y => (nameL (x.tg i k)).toList == y.toList) && !(R i (x.tg i k) && R (x.tg i k) i)))) ∧ Below w.heap.size w w' := by
  have hj := h.tgs i hi k hk
  have h6 := h.n6
  have hc := fun (W : World) (hb : Below w.heap.size w W) => Tryz.refTableAt (h.next hb).sch h6 hj
  have hw := fun (W : World) (hb : Below w.heap.size w W) => hW.next hb
  have hw0 : Below w.heap.size w (w.alloc (.cells #[.string ⟨#[UInt8.ofNat (102 + k)]⟩, .slice (some ⟨x.xb i k, 0, none⟩) 1 1, .string (nameL (x.tg i k))] 42)) := (Below.refl _ _).alloc (Nat.le_refl _) _
  have f2 : (w.alloc (.cells #[.string ⟨#[UInt8.ofNat (102 + k)]⟩, .slice (some ⟨x.xb i k, 0, none⟩) 1 1, .string (nameL (x.tg i k))] 42)).cell? ⟨w.heap.size, 2, none⟩ = some (.string (nameL (x.tg i k))) := by
    unfold World.cell?
    rw [heap_alloc_new']
    rfl
  unfold Schema.fk
  generalize (⟨#[UInt8.ofNat (102 + k)]⟩ : ByteArray) = s0 at *
  generalize nameL (x.tg i k) = s2 at *
  generalize x.tg i k = j at *
  have hq := fun (W : World) (hb : Below w.heap.size w W) => Tryz.containsS l s2 ad ca W (hw W hb).strs hl
  have d1 := fun (W : World) (hb : Below w.heap.size w W) => (hw W hb).mat.cells i hi j hj
  have d2 := fun (W : World) (hb : Below w.heap.size w W) => (hw W hb).mat.cells j hj i hi
  generalize (l.any fun y => s2.toList == y.toList) = v at *
  generalize R i j = u1 at *
  generalize R j i = u2 at *
  generalize hz : (!(j == i) && (!v && !(u1 && u2))) = z
  replace hz := Lib.hid hz
  go_enter Tryz.func19, Tryz.ntmps19
  go_upto_region 1 with fail
  have hsz : w.heap.size < (w.alloc (.cells #[.string s0, .slice (some ⟨x.xb i k, 0, none⟩) 1 1, .string s2] 42)).heap.size := by rw [ex_alloc_size]; omega
  generalize w.alloc (.cells #[.string s0, .slice (some ⟨x.xb i k, 0, none⟩) 1 1, .string s2] 42) = W1 at hw0 f2 hsz ⊢
  have c0 := (show x.Box b W1 from heap_kept hw0 hB).cell
  unfold Schema.sl at c0
  have hc1 := hc W1 hw0
  go_upto_region 2 with (first | (go_at_call 20; refine hc1.mono ?_; rintro e w2 ⟨rfl, hb⟩))
  have hw2 := below_next hw0 hb
  have hd2 := hw2.drew
  have hq2 := hq w2.drew hd2
  have f3 : w2.drew.cell? ⟨w.heap.size, 2, none⟩ = _ := (hb.cell hsz).trans f2
  have m1 : w2.drew.cell? ⟨mb, i, none⟩ = _ := (hw w2 hw2).mat.rows i hi
  have m2 : w2.drew.cell? ⟨mb, j, none⟩ = _ := (hw w2 hw2).mat.rows j hj
  have e1 : w2.drew.cell? ⟨rb i, j, none⟩ = _ := d1 w2 hw2
  have e2 : w2.drew.cell? ⟨rb j, i, none⟩ = _ := d2 w2 hw2
  have a1 : w2.drew.cell? ⟨pi, 0, none⟩ = _ := (hw w2 hw2).num
  have a2 : w2.drew.cell? ⟨po, 0, none⟩ = _ := (hw w2 hw2).ord
  have a5 : w2.drew.cell? ⟨g, 0, none⟩ = _ := (hw w2 hw2).box
  clear hc hw hc1 hq c0 f2 hB hW h d1 d2
  refine wp_region_still_lit tryz_mixed (by kernel_rfl) ?_
  change wpStill _ _ w2.drew _ _ _
  generalize w2.drew = WD at *
  refine still_via fun KK hKK => ?_
  by_cases e : j = i
  · subst e
    iterate 30 (refine Still.step (fun K hK => ?_); go_simp; refine hK _ ?_; clear hK K)
    refine Still.nil ?_
    refine hKK _ ?_
    clear hKK
    go_wp2_with fail
    go_ret
    exact ⟨by rw [← hz.out]; simp, hw2.drew⟩
  · have g1 : (j == i) = false := beq_eq_false_iff_ne.mpr e
    have g2 : ((j : Int) != (i : Int)) = true := bne_iff_ne.mpr (by omega)
    have g3 := Lib.hid g1
    clear g1
    cases v <;> cases u1 <;> cases u2
    all_goals
      iterate 30 (refine Still.step (fun K hK => ?_); go_simp; (first | refine hK _ ?_ | refine ⟨_, hq2, hK _ ?_⟩); clear hK K)
      refine Still.nil ?_
      refine hKK _ ?_
      clear hKK
      go_wp2_with fail
      go_ret
      exact ⟨by rw [← hz.out, g3.out]; rfl, hw2.drew⟩

end Go.Proofs

namespace Go.Proofs
open Go.RowKit Go.Ke Go.Orders

set_option maxRecDepth 20000 in
theorem Tryz.index19 {x : Schema} {w : World} (h : x.At w) {i : Nat} (hi : i < x.n) {b pi ps pc : Nat} {bs : Nat → Bool}
    (hcall : ∀ (k : Nat), k < x.nf i → ∀ W : World, Below w.heap.size w W → Calls Tryz.prog 19 #[x.fk i k, .pointer (some ⟨b, 0, none⟩), .pointer (some ⟨pi, 0, none⟩), .pointer (some ⟨ps, 0, none⟩), .pointer (some ⟨pc, 0, none⟩)] W fun e w' => e = .returned (.bool (bs k)) ∧ Below W.heap.size W w') :
    Calls Tryz.prog 34 #[x.F i, .func (.func 19) #[] #[.pointer (some ⟨b, 0, none⟩), .pointer (some ⟨pi, 0, none⟩), .pointer (some ⟨ps, 0, none⟩), .pointer (some ⟨pc, 0, none⟩)]] w fun e w' => ∃ z : Int, e = .returned (.int .i64 z) ∧ Hid (decide (0 ≤ z) = (List.range (x.nf i)).any bs) ∧ Below w.heap.size w w' := by
  have h2 := h.nf2 i hi
  cases hf : x.nf i with
  | zero =>
    rw [Schema.F_zero hf]
    go_enter Tryz.func34, Tryz.ntmps34
    go_wp2_with fail
    refine wp_loop_rounds 4 ?_
    rw [rounds_succ]
    go_wp2_with fail
    go_ret
    exact ⟨-1, rfl, Lib.hid (by simp), Below.refl _ _⟩
  | succ m =>
    have hA := fun (W : World) (hb : Below w.heap.size w W) => (h.next hb).fors i hi (by omega)
    rw [Schema.F_succ hf]
    rw [hf] at h2 hcall hA
    clear hf
    generalize m + 1 = q at *
    unfold Schema.fk at hcall
    go_enter Tryz.func34, Tryz.ntmps34
    go_wp2_with fail
    go_loopw [8] (fun v wr => ∃ k : Nat, v = .int .i64 k ∧ k ≤ q ∧ Below w.heap.size w wr ∧ Hid (∀ j, j < k → bs j = false)) (fun v _ => q - (intOf v).toNat)
    case atStart => exact ⟨0, rfl, Nat.zero_le _, Below.refl _ _, Lib.hid fun j hj => absurd hj (Nat.not_lt_zero j)⟩
    case round =>
      obtain ⟨k, rfl, hk, hwr, hsp⟩ := hrel
      by_cases hlt : k < q
      · obtain ⟨k0, k1, k2⟩ := (hA wr hwr).cell hlt
        have hc := hcall k hlt wr hwr
        generalize (⟨#[UInt8.ofNat (102 + k)]⟩ : ByteArray) = s0 at *
        generalize nameL (x.tg i k) = s2 at *
        generalize hbk : bs k = u at hc
        replace hbk := Lib.hid hbk
        cases u with
        | true =>
          go_wp2_with (first | (go_at_call 19; refine hc.mono ?_; rintro e w2 ⟨rfl, hb⟩))
          go_ret
          exact ⟨k, rfl, Lib.hid (by rw [List.any_eq_true.mpr ⟨k, List.mem_range.mpr hlt, hbk.out⟩]; simp), below_next hwr hb⟩
        | false =>
          go_wp2_with (first | (go_at_call 19; refine hc.mono ?_; rintro e w2 ⟨rfl, hb⟩))
          go_roundw
          case rel =>
            refine ⟨k + 1, by go_num, by omega, below_next hwr hb, Lib.hid fun j hj => ?_⟩
            by_cases e : j = k
            · rw [e]; exact hbk.out
            · exact hsp.out j (by omega)
          case measure => simp [intOf]; omega
      · have hkq : k = q := by omega
        go_wp2_with fail
        go_ret
        exact ⟨-1, rfl, Lib.hid (by
          have : (List.range q).any bs = false := List.any_eq_false.mpr fun j hj => by
            rw [hsp.out j (by have := List.mem_range.mp hj; omega)]; decide
          rw [this]; rfl), hwr⟩

set_option maxRecDepth 20000 in
theorem Tryz.contains19 {x : Schema} {w : World} (h : x.At w) {i : Nat} (hi : i < x.n) {b pi ps pc : Nat} {bs : Nat → Bool}
    (hcall : ∀ (k : Nat), k < x.nf i → ∀ W : World, Below w.heap.size w W → Calls Tryz.prog 19 #[x.fk i k, .pointer (some ⟨b, 0, none⟩), .pointer (some ⟨pi, 0, none⟩), .pointer (some ⟨ps, 0, none⟩), .pointer (some ⟨pc, 0, none⟩)] W fun e w' => e = .returned (.bool (bs k)) ∧ Below W.heap.size W w') :
    Calls Tryz.prog 14 #[x.F i, .func (.func 19) #[] #[.pointer (some ⟨b, 0, none⟩), .pointer (some ⟨pi, 0, none⟩), .pointer (some ⟨ps, 0, none⟩), .pointer (some ⟨pc, 0, none⟩)]] w fun e w' => e = .returned (.bool ((List.range (x.nf i)).any bs)) ∧ Below w.heap.size w w' := by
  have hk := Tryz.index19 h hi hcall
  generalize (List.range (x.nf i)).any bs = r at *
  generalize x.F i = v at *
  go_enter Tryz.func14, Tryz.ntmps14
  go_wp2_with (first | (go_at_call 34; refine hk.mono ?_; rintro e w2 ⟨z, rfl, hz, hb⟩))
  go_ret
  exact ⟨by rw [← hz.out]; first | rfl | simp, hb⟩

end Go.Proofs
