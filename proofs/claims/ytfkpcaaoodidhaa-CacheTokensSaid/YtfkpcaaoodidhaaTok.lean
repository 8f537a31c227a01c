/- Of package cache and of the document's package: what is right of a token, and its sum. No condition but the bounds of what comes in. -/
import Derived.Test.YtfkpcaaoodidhaaHash
import Derived.Test.YtfkpcaaoodidhaaStrm
namespace Go.Proofs
open Go.RowKit
open Go.Lib (byteCells strCells)

theorem Try.number (n : Int) (w : World) : Calls Try.prog 41 #[.int .i64 n] w fun e w' => e = .returned (valV 2 n ⟨#[]⟩) ∧ Below w.heap.size w w' := by
  go_enter Try.func41, Try.ntmps41
  go_wp2
  refine bodyPost_ret (v := valV 2 n ⟨#[]⟩) (by simp [results, Try.results41, go_sem, valV]) rfl ⟨rfl, ?_⟩
  exact (Below.refl _ _).alloc (Nat.le_refl _) _

theorem Try.withinC (n low high : Int) (w : World) : Calls Try.prog 23 #[.int .i64 n, .int .i64 low, .int .i64 high] w fun e w' => e = .returned (.bool (inB n low high)) ∧ w = w' := by
  go_enter Try.func23, Try.ntmps23
  go_wp2
  all_goals go_ret
  all_goals refine ⟨congrArg (fun b => Ending.returned (.bool b)) ?_, rfl⟩
  all_goals simp only [inB]
  · rename_i h; simp [h]
  · rename_i h; simp [show ¬ low ≤ n by omega]

def badT (t : Int) : Bool := !inB t 1 999999999999999

theorem Try.bad1 (t : Int) (w : World) : Calls Try.prog 33 #[.int .i64 t] w fun e w' => e = .returned (.bool (badT t)) ∧ w' = w := by
  go_enter Try.func33, Try.ntmps33
  go_wp2_with (first | (go_at_call 23; refine (Try.withinC _ _ _ _).mono ?_; rintro e w' ⟨rfl, rfl⟩))
  go_ret
  exact ⟨rfl, rfl⟩

theorem Try.bad2 (t : Int) (w : World) : Calls Try.prog 37 #[.int .i64 t] w fun e w' => e = .returned (.bool (badT t)) ∧ w' = w := by
  go_enter Try.func37, Try.ntmps37
  go_wp2
  all_goals go_ret
  all_goals refine ⟨congrArg (fun b => Ending.returned (.bool b)) ?_, rfl⟩
  all_goals (show _ = badT t; simp only [badT, inB]; grind)

def anyBad (l : List Int) : Bool := l.any badT

theorem anyBad_at {l : List Int} {k : Nat} (h : k < l.length) (hb : badT l[k] = true) : anyBad l = true := by
  unfold anyBad
  rw [List.any_eq_true]
  exact ⟨l[k], List.getElem_mem h, hb⟩

theorem anyBad_take {l : List Int} {k : Nat} (h : k < l.length) (h0 : anyBad (l.take k) = false) (hb : badT l[k] = false) : anyBad (l.take (k + 1)) = false := by
  unfold anyBad at *
  rw [List.take_succ_eq_append_getElem h, List.any_append, h0]
  simp [hb]

/-- What IndexFunc says: a place, if one is bad. -/
def SomeAt (l : List Int) (w : World) (e : Ending) (w' : World) : Prop := ∃ i : Int, e = .returned (.int .i64 i) ∧ decide (0 ≤ i) = anyBad l ∧ w = w'

set_option maxRecDepth 20000 in
theorem Try.indexFunc33 (l : List Int) (ad : Option Addr) (ca : Nat) (w : World) (h : IntsAt w w.heap.size ad l) (la : l.length ≤ 9223372036854775807) :
    Calls Try.prog 57 #[.slice ad l.length ca, .func (.func 33) #[] #[]] w (SomeAt l w) := by
  go_enter Try.func57, Try.ntmps57
  go_wp2_with fail
  go_loop [8] (fun i => ∃ k : Nat, i = .int .i64 k ∧ k ≤ l.length ∧ anyBad (l.take k) = false) (fun i => l.length - (intOf i).toNat)
  case atStart => exact ⟨0, rfl, Nat.zero_le _, rfl⟩
  case round =>
    obtain ⟨k, rfl, hkl, hk⟩ := hrel
    have HK := Lib.hid hk
    clear hk
    by_cases hlt : k < l.length
    · obtain ⟨p, o, rfl, hp, c0, hz1, hz2⟩ := h k hlt
      by_cases hb : badT l[k] = true
      · have HB := Lib.hid (anyBad_at hlt hb)
        go_wp2_with fail
        refine (Try.bad1 _ _).mono ?_
        rintro e w' ⟨rfl, rfl⟩
        go_wp2_with fail
        go_ret
        exact ⟨k, rfl, by rw [HB.out]; simp, rfl⟩
      · have hb' : badT l[k] = false := by simpa using hb
        have HB := Lib.hid (anyBad_take hlt HK.out hb')
        clear hb
        go_wp2_with fail
        refine (Try.bad1 _ _).mono ?_
        rintro e w' ⟨rfl, rfl⟩
        go_wp2_with fail
        go_round
        case rel => exact ⟨k + 1, by go_num, by omega, HB.out⟩
        case measure => simp [intOf]; omega
    · have e : l.take k = l := List.take_of_length_le (by omega)
      have HB : anyBad l = false := by rw [← e]; exact HK.out
      have HB := Lib.hid HB
      clear e
      go_wp2_with fail
      go_ret
      exact ⟨-1, rfl, by rw [HB.out]; rfl, rfl⟩

theorem Try.containsFunc33 (l : List Int) (ad : Option Addr) (ca : Nat) (w : World) (h : IntsAt w w.heap.size ad l) (la : l.length ≤ 9223372036854775807) :
    Calls Try.prog 32 #[.slice ad l.length ca, .func (.func 33) #[] #[]] w fun e w' => e = .returned (.bool (anyBad l)) ∧ w = w' := by
  go_enter Try.func32, Try.ntmps32
  go_wp2_with fail
  refine (Try.indexFunc33 l ad ca w h la).mono ?_
  rintro e w' ⟨i, rfl, hi, rfl⟩
  have HI := Lib.hid hi
  clear hi
  go_wp2_with fail
  go_ret
  exact ⟨by rw [← HI.out]; rfl, rfl⟩

set_option maxRecDepth 20000 in
theorem Try.indexFunc37 (l : List Int) (ad : Option Addr) (ca : Nat) (w : World) (h : IntsAt w w.heap.size ad l) (la : l.length ≤ 9223372036854775807) :
    Calls Try.prog 57 #[.slice ad l.length ca, .func (.func 37) #[] #[]] w (SomeAt l w) := by
  go_enter Try.func57, Try.ntmps57
  go_wp2_with fail
  go_loop [8] (fun i => ∃ k : Nat, i = .int .i64 k ∧ k ≤ l.length ∧ anyBad (l.take k) = false) (fun i => l.length - (intOf i).toNat)
  case atStart => exact ⟨0, rfl, Nat.zero_le _, rfl⟩
  case round =>
    obtain ⟨k, rfl, hkl, hk⟩ := hrel
    have HK := Lib.hid hk
    clear hk
    by_cases hlt : k < l.length
    · obtain ⟨p, o, rfl, hp, c0, hz1, hz2⟩ := h k hlt
      by_cases hb : badT l[k] = true
      · have HB := Lib.hid (anyBad_at hlt hb)
        go_wp2_with fail
        refine (Try.bad2 _ _).mono ?_
        rintro e w' ⟨rfl, rfl⟩
        go_wp2_with fail
        go_ret
        exact ⟨k, rfl, by rw [HB.out]; simp, rfl⟩
      · have hb' : badT l[k] = false := by simpa using hb
        have HB := Lib.hid (anyBad_take hlt HK.out hb')
        clear hb
        go_wp2_with fail
        refine (Try.bad2 _ _).mono ?_
        rintro e w' ⟨rfl, rfl⟩
        go_wp2_with fail
        go_round
        case rel => exact ⟨k + 1, by go_num, by omega, HB.out⟩
        case measure => simp [intOf]; omega
    · have e : l.take k = l := List.take_of_length_le (by omega)
      have HB : anyBad l = false := by rw [← e]; exact HK.out
      have HB := Lib.hid HB
      clear e
      go_wp2_with fail
      go_ret
      exact ⟨-1, rfl, by rw [HB.out]; rfl, rfl⟩

theorem Try.containsFunc37 (l : List Int) (ad : Option Addr) (ca : Nat) (w : World) (h : IntsAt w w.heap.size ad l) (la : l.length ≤ 9223372036854775807) :
    Calls Try.prog 32 #[.slice ad l.length ca, .func (.func 37) #[] #[]] w fun e w' => e = .returned (.bool (anyBad l)) ∧ w = w' := by
  go_enter Try.func32, Try.ntmps32
  go_wp2_with fail
  refine (Try.indexFunc37 l ad ca w h la).mono ?_
  rintro e w' ⟨i, rfl, hi, rfl⟩
  have HI := Lib.hid hi
  clear hi
  go_wp2_with fail
  go_ret
  exact ⟨by rw [← HI.out]; rfl, rfl⟩

theorem IntsAt.later {w w' : World} {ad : Option Addr} {l : List Int} (h : IntsAt w w.heap.size ad l) (hb : Below w.heap.size w w') : IntsAt w' w'.heap.size ad l := by
  intro i hi
  obtain ⟨p, o, h1, h2, h3⟩ := h.below hb i hi
  exact ⟨p, o, h1, Nat.lt_of_lt_of_le h2 hb.size, h3⟩

def tokOk (s : ByteArray) (l : List Int) (u : Int) : Bool := !s.toList.isEmpty && (checkN 3 3 0 s == 0) && inB u 0 253402300799 && !anyBad l

set_option maxRecDepth 20000 in
theorem Try.rightToken (s : ByteArray) (hs : s.size ≤ 9223372036854775807) (l : List Int) (ad : Option Addr) (ca : Nat) (u : Int) (w : World) (h : IntsAt w w.heap.size ad l) (la : l.length ≤ 9223372036854775807) :
    Calls Try.prog 15 #[.string s, .slice ad l.length ca, .int .i64 u] w fun e w' => e = .returned (.bool (tokOk s l u)) ∧ Below w.heap.size w w' := by
  go_enter Try.func15, Try.ntmps15
  go_wp2_with (first
    | (go_at_call 31; refine (Try.check 3 3 0 s hs _).mono ?_; rintro e w1 ⟨rfl, hb1⟩)
    | (go_at_call 23; refine (Try.withinC _ _ _ _).mono ?_; rintro e w9 ⟨rfl, rfl⟩)
    | (go_at_call 32; refine (Try.containsFunc33 l ad ca _ (h.later hb1) la).mono ?_; rintro e w2 ⟨rfl, rfl⟩))
  all_goals go_ret
  all_goals refine ⟨congrArg (fun b => Ending.returned (.bool b)) ?_, by first | exact Below.refl _ _ | exact hb1⟩
  all_goals (show _ = tokOk s l u; unfold tokOk; simp [*])

set_option maxRecDepth 20000 in
theorem Try.tokenFault (s : ByteArray) (hs : s.size ≤ 9223372036854775807) (l : List Int) (ad : Option Addr) (ca : Nat) (u : Int) (w : World) (h : IntsAt w w.heap.size ad l) (la : l.length ≤ 9223372036854775807) :
    Calls Try.prog 19 #[.string s, .slice ad l.length ca, .int .i64 u] w fun e w' => e = .returned (.bool (!tokOk s l u)) ∧ Below w.heap.size w w' := by
  go_enter Try.func19, Try.ntmps19
  go_wp2_with (first
    | (go_at_call 38; refine (Try.valueFault 3 3 0 s hs _).mono ?_; rintro e w1 ⟨rfl, hb1⟩)
    | (go_at_call 32; refine (Try.containsFunc37 l ad ca _ (h.later hb1) la).mono ?_; rintro e w2 ⟨rfl, rfl⟩))
  all_goals go_ret
  all_goals refine ⟨congrArg (fun b => Ending.returned (.bool b)) ?_, by first | exact Below.refl _ _ | exact hb1⟩
  all_goals (show _ = !tokOk s l u; unfold tokOk; rw [check_agrees]; unfold inB; simp [*]; try grind)

end Go.Proofs
