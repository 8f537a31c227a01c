/- Of package cache and of the document's package: a token checked. The list has at most 100000000 numbers. -/
import Derived.Test.YtfkpcaaoodidhaaIssue
import Derived.Test.YtfkpcaaoodidhaaRise
import Derived.Deep.QuietTactic
import Derived.BigQuiet
import Derived.IntWalk
namespace Go.Proofs
open Go.RowKit

theorem sorted_no {l : List Int} {k : Nat} (h1 : 1 ≤ k) (hk : k < l.length) (h : l[k] < l[k - 1]) : sortedB l = false := by
  unfold sortedB
  rw [List.all_eq_false]
  refine ⟨k - 1, List.mem_range.2 (by omega), ?_⟩
  simp only [decide_eq_true_eq]
  rw [show k - 1 + 1 = k by omega]
  simp only [List.getD_eq_getElem?_getD, List.getElem?_eq_getElem hk, List.getElem?_eq_getElem (show k - 1 < l.length by omega), Option.getD_some]
  omega

theorem sorted_yes {l : List Int} (h : ∀ j, j + 1 < l.length → l.getD j 0 ≤ l.getD (j + 1) 0) : sortedB l = true := by
  unfold sortedB
  simp only [List.all_eq_true, List.mem_range, decide_eq_true_eq]
  exact fun j hj => h j (by omega)

def fromB (l : List Int) (k : Nat) : Prop := ∀ j, k ≤ j → j + 1 < l.length → l.getD j 0 ≤ l.getD (j + 1) 0

theorem fromB_step {l : List Int} {k : Nat} (h : fromB l k) (h1 : 1 ≤ k) (hk : k < l.length) (hle : ¬ l[k] < l[k - 1]) : fromB l (k - 1) := by
  intro j hj hjl
  by_cases e : k ≤ j
  · exact h j e hjl
  · have : j = k - 1 := by omega
    subst this
    rw [show k - 1 + 1 = k by omega]
    simp only [List.getD_eq_getElem?_getD, List.getElem?_eq_getElem hk, List.getElem?_eq_getElem (show k - 1 < l.length by omega), Option.getD_some]
    omega

set_option maxRecDepth 20000 in
theorem Try.isSorted (l : List Int) (ad : Option Addr) (ca : Nat) (w : World) (h : IntsAt w w.heap.size ad l) (la : l.length ≤ 100000000) :
    Calls Try.prog 25 #[.slice ad l.length ca] w fun e w' => e = .returned (.bool (sortedB l)) ∧ Below w.heap.size w w' := by
  by_cases hl : l.length = 0
  · have : l = [] := List.eq_nil_of_length_eq_zero hl
    subst this
    go_enter Try.func25, Try.ntmps25
    go_wp2
    refine wp_loop_rounds 1 ?_
    rw [rounds_succ]; go_wp2
    go_ret
    exact ⟨by simp [sortedB], Below.refl _ _⟩
  · obtain ⟨m, hm⟩ : ∃ m : Nat, l.length = m + 1 := ⟨l.length - 1, by omega⟩
    have hF0 : fromB l m := fun j hj hjl => by omega
    have HM := Lib.hid hm
    have hml : m + 1 ≤ l.length := by omega
    have hml2 : l.length ≤ m + 1 := by omega
    rw [hm]
    clear hm hl
    go_enter Try.func25, Try.ntmps25
    go_wp2_with fail
    go_loopw [3] (fun i wr => ∃ k : Nat, i = .int .i64 k ∧ k ≤ m ∧ fromB l k ∧ Below w.heap.size w wr) (fun i _ => (intOf i).toNat)
    case atStart => exact ⟨m, by go_num, Nat.le_refl _, hF0, Below.refl _ _⟩
    case round =>
      obtain ⟨k, rfl, hkm, hF, hw⟩ := hrel
      by_cases hk0 : 0 < k
      · obtain ⟨p, o, rfl, hp, c0, _, _⟩ := h.below hw k (by omega)
        obtain ⟨p', o', he, _, c1, _, _⟩ := h.below hw (k - 1) (by omega)
        simp only [Option.some.injEq, Addr.mk.injEq, and_true] at he
        obtain ⟨rfl, rfl⟩ := he
        obtain ⟨q, rfl⟩ : ∃ q, k = q + 1 := ⟨k - 1, by omega⟩
        simp only [Nat.add_sub_cancel] at c1
        by_cases hlt : l[q + 1] < l[q]
        · have HB := Lib.hid (sorted_no (l := l) (k := q + 1) (by omega) (by omega) (by simpa using hlt))
          go_wp2_with fail
          go_quiet ((go_at_call 45; exact Calls.quiet_of_same (Try.cmp_Less_int2 _ _ _)))
          go_wp2_with fail
          go_ret
          exact ⟨by rw [HB.out]; rfl, belowDrewN hw⟩
        · have hle : ¬ l[q + 1] < l[q] := hlt
          have hF2 := fromB_step hF (by omega) (by omega) (by simpa using hle)
          simp only [Nat.add_sub_cancel] at hF2
          go_wp2_with fail
          go_quiet ((go_at_call 45; exact Calls.quiet_of_same (Try.cmp_Less_int2 _ _ _)))
          go_wp2_with fail
          go_roundw
          case rel => exact ⟨q, by go_num, by omega, hF2, belowDrewN hw⟩
          case measure => simp [intOf]
      · have HB := Lib.hid (sorted_yes (l := l) (fun j hj => hF j (by omega) hj))
        go_wp2_with fail
        go_ret
        exact ⟨by rw [HB.out]; rfl, hw⟩
end Go.Proofs
