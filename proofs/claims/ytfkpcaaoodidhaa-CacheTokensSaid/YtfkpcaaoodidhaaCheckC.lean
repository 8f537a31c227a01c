/- Of the document's package: a token checked. The list has at most 100000000 numbers. -/
import Derived.Test.YtfkpcaaoodidhaaCheckA
import Derived.Test.YtfkpcaaoodidhaaCheckQ
namespace Go.Proofs
open Go.RowKit

theorem held_tok2 {p : Nat} {w1 w2 w3 : World} {v x y : Value} (hp : p < w1.heap.size) (hb : Below w2.heap.size w2 w3) (hS : w2.cell? ⟨p, 0, none⟩ = some v ∧ w2.cell? ⟨p, 1, none⟩ = some x ∧ w2.cell? ⟨p, 2, none⟩ = some y ∧ Below w1.heap.size w1 w2 ∧ w1.heap.size ≤ w2.heap.size) :
    w3.cell? ⟨p, 0, none⟩ = some v ∧ w3.cell? ⟨p, 1, none⟩ = some x ∧ w3.cell? ⟨p, 2, none⟩ = some y ∧ Below w1.heap.size w1 w3 ∧ w1.heap.size ≤ w3.heap.size := held_tok hp hS hb

theorem held_size {p : Nat} {w1 w2 : World} {v x y : Value} (hS : w2.cell? ⟨p, 0, none⟩ = some v ∧ w2.cell? ⟨p, 1, none⟩ = some x ∧ w2.cell? ⟨p, 2, none⟩ = some y ∧ Below w1.heap.size w1 w2 ∧ w1.heap.size ≤ w2.heap.size) : w1.heap.size ≤ w2.heap.size := hS.2.2.2.2

theorem below_both {N : Nat} {w2 w3 w4 : World} (h3 : Below N w2 w3) (h4 : Below N w2 w4) (hz : w3.heap.size ≤ w4.heap.size) : Below N w3 w4 :=
  ⟨h4.os.trans h3.os.symm, h4.tape.trans h3.tape.symm, h4.output.trans h3.output.symm, hz, fun k hk => (h4.block k hk).trans (h3.block k hk).symm⟩

theorem held_tok3 {p N : Nat} {w1 w2 w3 : World} {v x y : Value} (hp : p < w1.heap.size) (hz : w1.heap.size ≤ N) (hb : Below N w2 w3) (hS : w2.cell? ⟨p, 0, none⟩ = some v ∧ w2.cell? ⟨p, 1, none⟩ = some x ∧ w2.cell? ⟨p, 2, none⟩ = some y ∧ Below w1.heap.size w1 w2 ∧ w1.heap.size ≤ w2.heap.size) :
    w3.cell? ⟨p, 0, none⟩ = some v ∧ w3.cell? ⟨p, 1, none⟩ = some x ∧ w3.cell? ⟨p, 2, none⟩ = some y ∧ Below w1.heap.size w1 w3 ∧ w1.heap.size ≤ w3.heap.size := by
  obtain ⟨h0, h1, h2, hk, hz2⟩ := hS
  have hs := hb.size
  have hp2 := Nat.lt_of_lt_of_le hp hz
  exact ⟨(hb.cell hp2).trans h0, (hb.cell hp2).trans h1, (hb.cell hp2).trans h2, hk.trans (hb.mono hz), by omega⟩

set_option maxRecDepth 20000 in
set_option maxHeartbeats 2000000 in
theorem Try.tokenFaultF (s : ByteArray) (hs : s.size ≤ 9223372036854775807) (l : List Int) (ad : Option Addr) (ca : Nat) (u hh tenant now : Int) (w : World) (h : IntsAt w w.heap.size ad l) (la : l.length ≤ 100000000) (hca : ad = none → l = [] ∧ ca = 0) :
    Calls Try.prog 12 #[.string s, tokV (.slice ad l.length ca) u hh, .int .i64 tenant, .int .i64 now] w fun e w' => e = .returned (.int .i64 (checkT s l u hh tenant now)) ∧ Below w.heap.size w w' := by
  have hT := TokAt.start w (.slice ad l.length ca) u hh
  have hlaw := Lib.hid (rises_law l)
  unfold tokV
  go_enter Try.func12, Try.ntmps12
  go_wp2_with fail
  generalize w.alloc (.cells #[.slice ad l.length ca, .int .i64 u, .int .u64 hh] 32) = W at hT ⊢
  obtain ⟨c0, c1, c2⟩ := hT.cells
  have h1 := h.later hT.2.1
  by_cases b1 : sortedB l = true
  · by_cases b2 : (Lib.compact l).length = l.length
    · have a2 : risesB l l.length = true := by rw [hlaw.out, b1, b2]; simp
      have b3 : (((Lib.compact l).length : Int) == (l.length : Int)) = true := by rw [b2]; simp
      clear b2
      go_region_held3 (fun w' => w'.cell? ⟨w.heap.size, 0, none⟩ = some (.slice ad l.length ca) ∧ w'.cell? ⟨w.heap.size, 1, none⟩ = some (.int .i64 u) ∧ w'.cell? ⟨w.heap.size, 2, none⟩ = some (.int .u64 hh) ∧ Below W.heap.size W w' ∧ W.heap.size ≤ w'.heap.size)
        (first | exact ⟨c0, c1, c2, (Below.refl _ _).drew, Nat.le_refl _⟩ | exact held_tok3 hT.2.2 hz3 hb4 (by assumption) | exact held_tok2 hT.2.2 (by assumption) (by assumption))
        (first
        | (go_at_call 25; refine (Try.isSorted l ad ca _ (held_ints h1 (by assumption)) la).mono ?_; rintro e w2 ⟨rfl, hb2⟩)
        | (go_at_call 10; have hz3 := held_size (w1 := W) (by assumption); refine (Try.clone l ad ca _ (held_ints h1 (by assumption)) la hca).mono ?_; rintro e w3 ⟨v3, rfl, hO3⟩; have hb3 := hO3.2.1)
        | (go_at_call 17; refine (Try.compact _ l _ _ _ hO3 la).mono ?_; rintro e w4 ⟨v4, rfl, hO4, hz4⟩; have hb4 := below_both hO3.2.1 hO4.2.1 hz4; obtain ⟨bd, cb, rfl, _⟩ := hO4.slice))
      rename_i hH
      clear c0 c1 c2
      by_cases a1 : tokOk s l u = true
      · by_cases a3 : 0 ≤ tenant ∧ tenant ≤ 999999999999999
        · obtain ⟨t1, t2⟩ := a3
          have a3' : inB tenant 0 999999999999999 = true := by unfold inB; simp; omega
          by_cases a4 : 0 ≤ now ∧ now ≤ 253402300799
          · obtain ⟨n1, n2⟩ := a4
            have a4' : inB now 0 253402300799 = true := by unfold inB; simp; omega
            go_upto_region 4 with (first
          | (go_at_call 19; refine (Try.tokenFault s hs l ad ca u _ (held_ints h1 hH) (by omega)).mono ?_; rintro e w5 ⟨rfl, hb5⟩; have hH5 := held_tok hT.2.2 hH hb5; obtain ⟨c0, c1, c2, hk5, hz5⟩ := hH5))
            have h5 := (h1.later hk5)
            have hp5 : w.heap.size < w5.heap.size := Nat.lt_of_lt_of_le hT.2.2 hz5
            go_region_held3 (fun w' => w'.cell? ⟨w.heap.size, 0, none⟩ = some (.slice ad l.length ca) ∧ w'.cell? ⟨w.heap.size, 1, none⟩ = some (.int .i64 u) ∧ w'.cell? ⟨w.heap.size, 2, none⟩ = some (.int .u64 hh) ∧ Below w5.heap.size w5 w' ∧ w5.heap.size ≤ w'.heap.size)
              (first | exact ⟨c0, c1, c2, (Below.refl _ _).drew, Nat.le_refl _⟩ | exact held_tok hp5 (by assumption) (by assumption))
              (first
              | (go_at_call 22; refine (Try.refSum s hs l ad ca u _ (held_ints h5 (by assumption)) la).mono ?_; rintro e w6 ⟨rfl, hb6⟩))
            rename_i hheld
            obtain ⟨d0, d1, d2, hk, hz⟩ := hheld
            have h6 := h5.later hk
            have hbw : Below w.heap.size w w6 := (hT.2.1.trans (hk5.mono (Nat.le_of_lt hT.2.2))).trans (hk.mono (Nat.le_of_lt hp5))
            by_cases a5 : (hh != hashL (keyL (sumL s u l))) = true
            · go_wp2_with fail
              go_ret
              exact ⟨congrArg (fun z => Ending.returned (.int .i64 z)) (by show _ = checkT s l u hh tenant now; unfold checkT; simp [*]), hbw⟩
            · have a5' : (hh != hashL (keyL (sumL s u l))) = false := by simpa using a5
              clear a5
              go_wp2_with (first | (go_at_call 24; refine (Try.contains l ad ca tenant _ h6 la).mono ?_; rintro e w9 ⟨rfl, rfl⟩))
              all_goals go_ret
              all_goals exact ⟨congrArg (fun z => Ending.returned (.int .i64 z)) (by show _ = checkT s l u hh tenant now; unfold checkT; first | (simp [*]; done) | (simp_all; done) | grind), hbw⟩
          · have a4' : inB now 0 253402300799 = false := by unfold inB; simp; omega
            rcases (show now < 0 ∨ (0 ≤ now ∧ 253402300799 < now) by omega) with n1 | ⟨n1, n2⟩
            all_goals
              go_wp2_with (first
          | (go_at_call 19; refine (Try.tokenFault s hs l ad ca u _ (held_ints h1 hH) (by omega)).mono ?_; rintro e w5 ⟨rfl, hb5⟩; have hH5 := held_tok hT.2.2 hH hb5; obtain ⟨c0, c1, c2, hk5, hz5⟩ := hH5))
              all_goals go_ret
              all_goals exact ⟨congrArg (fun z => Ending.returned (.int .i64 z)) (by show _ = checkT s l u hh tenant now; unfold checkT; first | (simp [*]; done) | (simp_all; done)), hT.2.1.trans (hk5.mono (Nat.le_of_lt hT.2.2))⟩
        · have a3' : inB tenant 0 999999999999999 = false := by unfold inB; simp; omega
          rcases (show tenant < 0 ∨ (0 ≤ tenant ∧ 999999999999999 < tenant) by omega) with n1 | ⟨n1, n2⟩
          all_goals
            go_wp2_with (first
          | (go_at_call 19; refine (Try.tokenFault s hs l ad ca u _ (held_ints h1 hH) (by omega)).mono ?_; rintro e w5 ⟨rfl, hb5⟩; have hH5 := held_tok hT.2.2 hH hb5; obtain ⟨c0, c1, c2, hk5, hz5⟩ := hH5))
            all_goals go_ret
            all_goals exact ⟨congrArg (fun z => Ending.returned (.int .i64 z)) (by show _ = checkT s l u hh tenant now; unfold checkT; first | (simp [*]; done) | (simp_all; done)), hT.2.1.trans (hk5.mono (Nat.le_of_lt hT.2.2))⟩
      · have a1' : tokOk s l u = false := by simpa using a1
        go_wp2_with (first
          | (go_at_call 19; refine (Try.tokenFault s hs l ad ca u _ (held_ints h1 hH) (by omega)).mono ?_; rintro e w5 ⟨rfl, hb5⟩; have hH5 := held_tok hT.2.2 hH hb5; obtain ⟨c0, c1, c2, hk5, hz5⟩ := hH5))
        all_goals go_ret
        all_goals exact ⟨congrArg (fun z => Ending.returned (.int .i64 z)) (by show _ = checkT s l u hh tenant now; unfold checkT; first | (simp [*]; done) | (simp_all; done)), hT.2.1.trans (hk5.mono (Nat.le_of_lt hT.2.2))⟩
    · have a2 : risesB l l.length = false := by rw [hlaw.out, b1]; simp [b2]
      have b3 : (((Lib.compact l).length : Int) == (l.length : Int)) = false := by simp; omega
      clear b2
      go_region_held3 (fun w' => w'.cell? ⟨w.heap.size, 0, none⟩ = some (.slice ad l.length ca) ∧ w'.cell? ⟨w.heap.size, 1, none⟩ = some (.int .i64 u) ∧ w'.cell? ⟨w.heap.size, 2, none⟩ = some (.int .u64 hh) ∧ Below W.heap.size W w' ∧ W.heap.size ≤ w'.heap.size)
        (first | exact ⟨c0, c1, c2, (Below.refl _ _).drew, Nat.le_refl _⟩ | exact held_tok3 hT.2.2 hz3 hb4 (by assumption) | exact held_tok2 hT.2.2 (by assumption) (by assumption))
        (first
        | (go_at_call 25; refine (Try.isSorted l ad ca _ (held_ints h1 (by assumption)) la).mono ?_; rintro e w2 ⟨rfl, hb2⟩)
        | (go_at_call 10; have hz3 := held_size (w1 := W) (by assumption); refine (Try.clone l ad ca _ (held_ints h1 (by assumption)) la hca).mono ?_; rintro e w3 ⟨v3, rfl, hO3⟩; have hb3 := hO3.2.1)
        | (go_at_call 17; refine (Try.compact _ l _ _ _ hO3 la).mono ?_; rintro e w4 ⟨v4, rfl, hO4, hz4⟩; have hb4 := below_both hO3.2.1 hO4.2.1 hz4; obtain ⟨bd, cb, rfl, _⟩ := hO4.slice))
      rename_i hH
      clear c0 c1 c2
      go_wp2_with (first
          | (go_at_call 19; refine (Try.tokenFault s hs l ad ca u _ (held_ints h1 hH) (by omega)).mono ?_; rintro e w5 ⟨rfl, hb5⟩; have hH5 := held_tok hT.2.2 hH hb5; obtain ⟨c0, c1, c2, hk5, hz5⟩ := hH5))
      all_goals go_ret
      all_goals exact ⟨congrArg (fun z => Ending.returned (.int .i64 z)) (by show _ = checkT s l u hh tenant now; unfold checkT; first | (simp [*]; done) | (simp_all; done)), hT.2.1.trans (hk5.mono (Nat.le_of_lt hT.2.2))⟩
  · have b1' : sortedB l = false := by simpa using b1
    have a2 : risesB l l.length = false := by rw [hlaw.out, b1']; rfl
    clear b1
    go_quiet ((go_at_call 25; exact Calls.quiet_of (isSortedQV l ad ca _ false b1' (h1.later (belowDrewN (Below.refl _ _))) la)))
    rename_i nq
    have hH : (W.drewN nq).cell? ⟨w.heap.size, 0, none⟩ = some (.slice ad l.length ca) ∧ (W.drewN nq).cell? ⟨w.heap.size, 1, none⟩ = some (.int .i64 u) ∧ (W.drewN nq).cell? ⟨w.heap.size, 2, none⟩ = some (.int .u64 hh) ∧ Below W.heap.size W (W.drewN nq) ∧ W.heap.size ≤ (W.drewN nq).heap.size := ⟨c0, c1, c2, belowDrewN (Below.refl _ _), Nat.le_refl _⟩
    generalize W.drewN nq = W2 at hH ⊢
    clear c0 c1 c2
    go_wp2_with (first
          | (go_at_call 19; refine (Try.tokenFault s hs l ad ca u _ (held_ints h1 hH) (by omega)).mono ?_; rintro e w5 ⟨rfl, hb5⟩; have hH5 := held_tok hT.2.2 hH hb5; obtain ⟨c0, c1, c2, hk5, hz5⟩ := hH5))
    all_goals go_ret
    all_goals exact ⟨congrArg (fun z => Ending.returned (.int .i64 z)) (by show _ = checkT s l u hh tenant now; unfold checkT; first | (simp [*]; done) | (simp_all; done)), hT.2.1.trans (hk5.mono (Nat.le_of_lt hT.2.2))⟩
end Go.Proofs
