/- Of the document's package: sortedness read: nothing but draws. -/
import Derived.Test.YtfkpcaaoodidhaaCheck
namespace Go.Proofs
open Go.RowKit

set_option maxRecDepth 20000 in
theorem Try.isSortedQ (l : List Int) (ad : Option Addr) (ca : Nat) (w : World) (h : IntsAt w w.heap.size ad l) (la : l.length ≤ 100000000) :
    Calls Try.prog 25 #[.slice ad l.length ca] w fun e w' => e = .returned (.bool (sortedB l)) ∧ ∃ n, w' = w.drewN n := by
  by_cases hl : l.length = 0
  · have : l = [] := List.eq_nil_of_length_eq_zero hl
    subst this
    go_enter Try.func25, Try.ntmps25
    go_wp2
    refine wp_loop_rounds 1 ?_
    rw [rounds_succ]; go_wp2
    go_ret
    exact ⟨by simp [sortedB], 0, rfl⟩
  · obtain ⟨m, hm⟩ : ∃ m : Nat, l.length = m + 1 := ⟨l.length - 1, by omega⟩
    have hF0 : fromB l m := fun j hj hjl => by omega
    have HM := Lib.hid hm
    have hml : m + 1 ≤ l.length := by omega
    have hml2 : l.length ≤ m + 1 := by omega
    rw [hm]
    clear hm hl
    go_enter Try.func25, Try.ntmps25
    go_wp2_with fail
    go_loopw [3] (fun i wr => ∃ k : Nat, i = .int .i64 k ∧ k ≤ m ∧ fromB l k ∧ ∃ n, wr = w.drewN n) (fun i _ => (intOf i).toNat)
    case atStart => exact ⟨m, by go_num, Nat.le_refl _, hF0, 0, rfl⟩
    case round =>
      obtain ⟨k, rfl, hkm, hF, hn⟩ := hrel
      have hw : Below w.heap.size w wr := by obtain ⟨n, rfl⟩ := hn; exact belowDrewN (Below.refl _ _)
      by_cases hk0 : 0 < k
      · obtain ⟨p, o, rfl, hp, c0, _, _⟩ := h.below hw k (by omega)
        obtain ⟨p', o', he, _, c1, _, _⟩ := h.below hw (k - 1) (by omega)
        simp only [Option.some.injEq, Addr.mk.injEq, and_true] at he
        obtain ⟨rfl, rfl⟩ := he
        obtain ⟨q, rfl⟩ : ∃ q, k = q + 1 := ⟨k - 1, by omega⟩
        simp only [Nat.add_sub_cancel] at c1
        by_cases hlt : l[q + 1] < l[q]
        · have HB := Lib.hid (sorted_no (l := l) (k := q + 1) (by omega) (by omega) (by simpa using hlt))
          go_wp2_with fail
          go_quiet ((go_at_call 45; exact Calls.quiet_of_same (Try.cmp_Less_int2 _ _ _)))
          go_wp2_with fail
          go_ret
          exact ⟨by rw [HB.out]; rfl, by obtain ⟨n, rfl⟩ := hn; exact ⟨_, World.drewN_drewN _ _ _⟩⟩
        · have hle : ¬ l[q + 1] < l[q] := hlt
          have hF2 := fromB_step hF (by omega) (by omega) (by simpa using hle)
          simp only [Nat.add_sub_cancel] at hF2
          go_wp2_with fail
          go_quiet ((go_at_call 45; exact Calls.quiet_of_same (Try.cmp_Less_int2 _ _ _)))
          go_wp2_with fail
          go_roundw
          case rel => exact ⟨q, by go_num, by omega, hF2, by obtain ⟨n, rfl⟩ := hn; exact ⟨_, World.drewN_drewN _ _ _⟩⟩
          case measure => simp [intOf]
      · have HB := Lib.hid (sorted_yes (l := l) (fun j hj => hF j (by omega) hj))
        go_wp2_with fail
        go_ret
        exact ⟨by rw [HB.out]; rfl, hn⟩

theorem isSortedQV (l : List Int) (ad : Option Addr) (ca : Nat) (w : World) (b : Bool) (hb : sortedB l = b) (h : IntsAt w w.heap.size ad l) (la : l.length ≤ 100000000) :
    Calls Try.prog 25 #[.slice ad l.length ca] w fun e w' => e = .returned (.bool b) ∧ ∃ n, w' = w.drewN n := by
  rw [← hb]; exact Try.isSortedQ l ad ca w h la
end Go.Proofs
