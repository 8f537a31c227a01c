/- Of package value: Compare and CompareLists. No condition. -/
import Derived.Test.YtmnlcldhhlkpeaaGreatDoorText
import Derived.StillTailTactics
import Derived.Laws.Cover1
import Derived.Deep.CutRange
import Derived.Deep.RegionWith
namespace Go.Proofs
open Go.RowKit







theorem Tryz.isNaN (n : Int) (w : World) : Calls Tryz.prog 85 #[.int .i64 n] w fun e w' => e = .returned (.bool false) ∧ w' = w := by
  go_enter Tryz.func85, Tryz.ntmps85
  go_wp2
  go_ret
  simp

theorem Tryz.isNaNs (s : ByteArray) (w : World) : Calls Tryz.prog 250 #[.string s] w fun e w' => e = .returned (.bool false) ∧ w' = w := by
  go_enter Tryz.func250, Tryz.ntmps250
  go_wp2
  go_ret
  simp

def cmpI (a b : Int) : Int := if a < b then -1 else if b < a then 1 else 0
def cmpS (a b : ByteArray) : Int := Lib.compareBytes a.data.toList b.data.toList

theorem Tryz.cmpInt (a b : Int) (w : World) : Calls Tryz.prog 54 #[.int .i64 a, .int .i64 b] w fun e w' => e = .returned (.int .i64 (cmpI a b)) ∧ w' = w := by
  go_enter Tryz.func54, Tryz.ntmps54
  go_wp2_with (go_at_call 85; refine (Tryz.isNaN _ _).mono ?_; rintro e w' ⟨rfl, rfl⟩)
  all_goals go_ret
  all_goals refine ⟨congrArg (fun z => Ending.returned (.int .i64 z)) ?_, rfl⟩
  all_goals (show _ = cmpI _ _; unfold cmpI; grind)

theorem less_cmp : ∀ a b : List UInt8, Lib.compareBytes a b = if Op.bytesLess a b then -1 else if a == b then 0 else 1
  | [], [] => rfl
  | [], _ :: _ => rfl
  | _ :: _, [] => by simp [Lib.compareBytes, Op.bytesLess]
  | x :: a, y :: b => by
    unfold Lib.compareBytes Op.bytesLess
    rw [less_cmp a b]
    by_cases hxy : x = y
    · subst hxy
      simp
    · by_cases hlt : x < y
      · simp [hlt]
      · have : y < x := UInt8.lt_of_le_of_ne (UInt8.not_lt.1 hlt) (Ne.symm hxy)
        simp [hlt, this, hxy]

theorem cmpS_less (a b : ByteArray) : cmpS a b = if Op.bytesLess a.toList b.toList then -1 else if a.toList == b.toList then 0 else 1 := by
  rw [ByteArray.toList_eq, ByteArray.toList_eq]
  exact less_cmp _ _

theorem Tryz.cmpStr (a b : ByteArray) (w : World) : Calls Tryz.prog 157 #[.string a, .string b] w fun e w' => e = .returned (.int .i64 (cmpS a b)) ∧ w' = w := by
  go_enter Tryz.func157, Tryz.ntmps157
  go_wp2_with (go_at_call 250; refine (Tryz.isNaNs _ _).mono ?_; rintro e w' ⟨rfl, rfl⟩)
  all_goals go_ret
  all_goals refine ⟨congrArg (fun z => Ending.returned (.int .i64 z)) ?_, rfl⟩
  all_goals (show _ = cmpS _ _; rw [cmpS_less]; simp_all)


def orN (x y z : Int) : Int := if x ≠ 0 then x else if y ≠ 0 then y else z

theorem Tryz.orInt (b : Nat) (x y z : Int) (w : World) (h0 : w.cell? ⟨b, 0, none⟩ = some (.int .i64 x)) (h1 : w.cell? ⟨b, 1, none⟩ = some (.int .i64 y)) (h2 : w.cell? ⟨b, 2, none⟩ = some (.int .i64 z)) :
    Calls Tryz.prog 156 #[.slice (some ⟨b, 0, none⟩) 3 3] w fun e w' => e = .returned (.int .i64 (orN x y z)) ∧ w' = w := by
  unfold orN
  by_cases hx : x = 0
  · subst hx
    by_cases hy : y = 0
    · subst hy
      by_cases hz : z = 0
      · subst hz
        go_enter Tryz.func156, Tryz.ntmps156
        go_wp2
        refine wp_loop_rounds 4 ?_
        rw [rounds_succ]; go_wp2
        rw [rounds_succ]; go_wp2
        rw [rounds_succ]; go_wp2
        rw [rounds_succ]; go_wp2
        go_ret
        exact ⟨by simp, rfl⟩
      · have hz' : (z != 0) = true := by simpa using hz
        go_enter Tryz.func156, Tryz.ntmps156
        go_wp2
        refine wp_loop_rounds 4 ?_
        rw [rounds_succ]; go_wp2
        rw [rounds_succ]; go_wp2
        rw [rounds_succ]; go_wp2
        go_ret
        exact ⟨by simp, rfl⟩
    · have hy' : (y != 0) = true := by simpa using hy
      go_enter Tryz.func156, Tryz.ntmps156
      go_wp2
      refine wp_loop_rounds 4 ?_
      rw [rounds_succ]; go_wp2
      rw [rounds_succ]; go_wp2
      go_ret
      exact ⟨by simp [*], rfl⟩
  · have hx' : (x != 0) = true := by simpa using hx
    go_enter Tryz.func156, Tryz.ntmps156
    go_wp2
    refine wp_loop_rounds 4 ?_
    rw [rounds_succ]; go_wp2
    go_ret
    exact ⟨by simp [*], rfl⟩

theorem new_cell (W : World) (xs : Array Value) (t : TypeId) (i : Nat) : (W.alloc (.cells xs t)).drew.cell? ⟨W.heap.size, i, none⟩ = xs[i]? := by
  show (W.alloc _).cell? _ = _
  unfold World.cell?
  rw [heap_alloc_new]
  rfl

def orderN (a b : Val) : Int := orN (cmpI a.k b.k) (cmpI a.n b.n) (cmpS a.s b.s)

set_option maxRecDepth 20000 in
theorem Tryz.order (a b : Val) (w : World) : Calls Tryz.prog 84 #[a.v, b.v] w fun e w' => e = .returned (.int .i64 (orderN a b)) ∧ Below w.heap.size w w' := by
  unfold Val.v valV
  go_enter Tryz.func84, Tryz.ntmps84
  go_wp2_with fail
  have key := two_kept (Below.refl _ ((w.alloc (.cells #[.int .i64 a.k, .int .i64 a.n, .string a.s] 23)).alloc (.cells #[.int .i64 b.k, .int .i64 b.n, .string b.s] 23)))
  generalize (w.alloc (.cells #[.int .i64 a.k, .int .i64 a.n, .string a.s] 23)).alloc (.cells #[.int .i64 b.k, .int .i64 b.n, .string b.s] 23) = W at key ⊢
  obtain ⟨b1, b2, hz, hb⟩ := key
  have c0 : W.drew.cell? ⟨w.heap.size, 0, none⟩ = some (.int .i64 a.k) := by show W.cell? _ = _; simp [World.cell?, b1]
  have c1 : W.drew.cell? ⟨w.heap.size, 1, none⟩ = some (.int .i64 a.n) := by show W.cell? _ = _; simp [World.cell?, b1]
  have c2 : W.drew.cell? ⟨w.heap.size, 2, none⟩ = some (.string a.s) := by show W.cell? _ = _; simp [World.cell?, b1]
  have d0 : W.drew.cell? ⟨w.heap.size + 1, 0, none⟩ = some (.int .i64 b.k) := by show W.cell? _ = _; simp [World.cell?, b2]
  have d1 : W.drew.cell? ⟨w.heap.size + 1, 1, none⟩ = some (.int .i64 b.n) := by show W.cell? _ = _; simp [World.cell?, b2]
  have d2 : W.drew.cell? ⟨w.heap.size + 1, 2, none⟩ = some (.string b.s) := by show W.cell? _ = _; simp [World.cell?, b2]
  clear b1 b2
  refine wp_region_still_tail 15 tryz_mixed (by kernel_rfl) ?_
  change wpStill _ _ W.drew _ _ _
  generalize W.drew = W1 at *
  simp only [List.take_succ_cons, List.take_zero, List.drop_succ_cons, List.drop_zero]
  still_step
  still_step
  still_step
  still_step
  still_call (Tryz.cmpInt _ _ _)
  still_step
  still_step
  still_step
  still_step
  still_call (Tryz.cmpInt _ _ _)
  still_step
  still_step
  still_step
  still_step
  still_call (Tryz.cmpStr _ _ _)
  refine wpStill_nil ?_
  change wpList _ _ _ _ _ _
  go_wp2_with (go_at_call 156; refine (Tryz.orInt _ _ _ _ _ (by rw [new_cell]; rfl) (by rw [new_cell]; rfl) (by rw [new_cell]; rfl)).mono ?_; rintro e w' ⟨rfl, rfl⟩)
  go_ret
  exact ⟨rfl, (hb.alloc (by omega) _).drew⟩

theorem two_start {w W : World} {x0 x1 x2 y0 y1 y2 : Value} {t u : TypeId} (b1 : W.heap[w.heap.size]? = some (.cells #[x0, x1, x2] t (0, 0))) (b2 : W.heap[w.heap.size + 1]? = some (.cells #[y0, y1, y2] u (0, 0))) (hb : Below w.heap.size w W) (hz : w.heap.size + 1 < W.heap.size) :
    W.drew.cell? ⟨w.heap.size, 0, none⟩ = some x0 ∧ W.drew.cell? ⟨w.heap.size, 1, none⟩ = some x1 ∧ W.drew.cell? ⟨w.heap.size, 2, none⟩ = some x2 ∧
      W.drew.cell? ⟨w.heap.size + 1, 0, none⟩ = some y0 ∧ W.drew.cell? ⟨w.heap.size + 1, 1, none⟩ = some y1 ∧ W.drew.cell? ⟨w.heap.size + 1, 2, none⟩ = some y2 ∧ Below w.heap.size w W.drew ∧ w.heap.size + 1 < W.drew.heap.size := by
  refine ⟨?_, ?_, ?_, ?_, ?_, ?_, hb.drew, hz⟩ <;> (show W.cell? _ = _; simp [World.cell?, b1, b2])

theorem two_call {w w1 w2 : World} {x0 x1 x2 y0 y1 y2 : Value}
    (h : w1.cell? ⟨w.heap.size, 0, none⟩ = some x0 ∧ w1.cell? ⟨w.heap.size, 1, none⟩ = some x1 ∧ w1.cell? ⟨w.heap.size, 2, none⟩ = some x2 ∧
      w1.cell? ⟨w.heap.size + 1, 0, none⟩ = some y0 ∧ w1.cell? ⟨w.heap.size + 1, 1, none⟩ = some y1 ∧ w1.cell? ⟨w.heap.size + 1, 2, none⟩ = some y2 ∧ Below w.heap.size w w1 ∧ w.heap.size + 1 < w1.heap.size) (hb : Below w1.heap.size w1 w2) :
    w2.cell? ⟨w.heap.size, 0, none⟩ = some x0 ∧ w2.cell? ⟨w.heap.size, 1, none⟩ = some x1 ∧ w2.cell? ⟨w.heap.size, 2, none⟩ = some x2 ∧
      w2.cell? ⟨w.heap.size + 1, 0, none⟩ = some y0 ∧ w2.cell? ⟨w.heap.size + 1, 1, none⟩ = some y1 ∧ w2.cell? ⟨w.heap.size + 1, 2, none⟩ = some y2 ∧ Below w.heap.size w w2 ∧ w.heap.size + 1 < w2.heap.size := by
  obtain ⟨h0, h1, h2, h3, h4, h5, hk, hz⟩ := h
  have hs := hb.size
  refine ⟨(hb.cell ?_).trans h0, (hb.cell ?_).trans h1, (hb.cell ?_).trans h2, (hb.cell ?_).trans h3, (hb.cell ?_).trans h4, (hb.cell ?_).trans h5, hk.trans (hb.mono (by omega)), by omega⟩ <;> first | exact hz | exact Nat.lt_of_succ_lt hz

set_option maxRecDepth 20000 in
theorem Tryz.compare (a b : Val) (ha : a.s.size ≤ 9223372036854775807) (hb : b.s.size ≤ 9223372036854775807) (w : World) : Calls Tryz.prog 53 #[a.v, b.v] w fun e w' => e = .returned (.int .i64 (orderN a.plain b.plain)) ∧ Below w.heap.size w w' := by
  unfold Val.v valV
  go_enter Tryz.func53, Tryz.ntmps53
  go_wp2_with fail
  have key := two_kept (Below.refl _ ((w.alloc (.cells #[.int .i64 a.k, .int .i64 a.n, .string a.s] 23)).alloc (.cells #[.int .i64 b.k, .int .i64 b.n, .string b.s] 23)))
  generalize (w.alloc (.cells #[.int .i64 a.k, .int .i64 a.n, .string a.s] 23)).alloc (.cells #[.int .i64 b.k, .int .i64 b.n, .string b.s] 23) = W at key ⊢
  obtain ⟨b1, b2, hz, hbw⟩ := key
  go_region_held3 (fun w' => w'.cell? ⟨w.heap.size, 0, none⟩ = some (.int .i64 a.k) ∧ w'.cell? ⟨w.heap.size, 1, none⟩ = some (.int .i64 a.n) ∧ w'.cell? ⟨w.heap.size, 2, none⟩ = some (.string a.s) ∧
      w'.cell? ⟨w.heap.size + 1, 0, none⟩ = some (.int .i64 b.k) ∧ w'.cell? ⟨w.heap.size + 1, 1, none⟩ = some (.int .i64 b.n) ∧ w'.cell? ⟨w.heap.size + 1, 2, none⟩ = some (.string b.s) ∧ Below w.heap.size w w' ∧ w.heap.size + 1 < w'.heap.size)
    (first | exact two_start b1 b2 hbw hz | exact two_call (by assumption) (by assumption))
    (first
    | (go_at_call 32; refine (Tryz.plainV _ _ _ (by assumption) _).mono ?_; rintro e w2 ⟨rfl, hb2⟩)
    | (go_at_call 84; refine (Tryz.order _ _ _).mono ?_; rintro e w3 ⟨rfl, hb3⟩))
  rename_i hheld
  have hk : Below w.heap.size w w3 := hheld.2.2.2.2.2.2.1
  clear hheld
  go_wp2
  go_ret
  exact ⟨rfl, hk⟩




end Go.Proofs

namespace Go.Proofs
open Go.RowKit




def cmpL : List Val → List Val → Int
  | [], [] => 0
  | [], _ :: _ => -1
  | _ :: _, [] => 1
  | x :: a, y :: b => if orderN x.plain y.plain ≠ 0 then orderN x.plain y.plain else cmpL a b

theorem cmpL_step {a b : List Val} {k : Nat} (ha : k < a.length) (hb : k < b.length) : cmpL (a.drop k) (b.drop k) = if orderN a[k].plain b[k].plain ≠ 0 then orderN a[k].plain b[k].plain else cmpL (a.drop (k + 1)) (b.drop (k + 1)) := by
  rw [List.drop_eq_getElem_cons ha, List.drop_eq_getElem_cons hb]
  rfl

theorem cmpL_end {a b : List Val} {k : Nat} (h : ¬ k < a.length ∨ ¬ k < b.length) (ha : k ≤ a.length) (hb : k ≤ b.length) : cmpL (a.drop k) (b.drop k) = cmpI a.length b.length := by
  by_cases h1 : k < a.length
  · have h2 : ¬ k < b.length := by omega
    rw [List.drop_eq_getElem_cons h1, List.drop_of_length_le (show b.length ≤ k by omega)]
    unfold cmpL cmpI
    grind
  · rw [List.drop_of_length_le (show a.length ≤ k by omega)]
    by_cases h2 : k < b.length
    · rw [List.drop_eq_getElem_cons h2]
      unfold cmpL cmpI
      grind
    · rw [List.drop_of_length_le (show b.length ≤ k by omega)]
      unfold cmpL cmpI
      grind

theorem rows_call {N p q o r : Nat} {w w1 w2 : World} {x0 x1 x2 y0 y1 y2 : Value} (hp : p < N) (hq : q < N)
    (h : w1.cell? ⟨p, o, none⟩ = some x0 ∧ w1.cell? ⟨p, o + 1, none⟩ = some x1 ∧ w1.cell? ⟨p, o + 2, none⟩ = some x2 ∧
      w1.cell? ⟨q, r, none⟩ = some y0 ∧ w1.cell? ⟨q, r + 1, none⟩ = some y1 ∧ w1.cell? ⟨q, r + 2, none⟩ = some y2 ∧ Below N w w1 ∧ N ≤ w1.heap.size) (hb : Below w1.heap.size w1 w2) :
    w2.cell? ⟨p, o, none⟩ = some x0 ∧ w2.cell? ⟨p, o + 1, none⟩ = some x1 ∧ w2.cell? ⟨p, o + 2, none⟩ = some x2 ∧
      w2.cell? ⟨q, r, none⟩ = some y0 ∧ w2.cell? ⟨q, r + 1, none⟩ = some y1 ∧ w2.cell? ⟨q, r + 2, none⟩ = some y2 ∧ Below N w w2 ∧ N ≤ w2.heap.size := by
  obtain ⟨h0, h1, h2, h3, h4, h5, hk, hz⟩ := h
  have hs := hb.size
  exact ⟨(hb.cell (Nat.lt_of_lt_of_le hp hz)).trans h0, (hb.cell (Nat.lt_of_lt_of_le hp hz)).trans h1, (hb.cell (Nat.lt_of_lt_of_le hp hz)).trans h2, (hb.cell (Nat.lt_of_lt_of_le hq hz)).trans h3, (hb.cell (Nat.lt_of_lt_of_le hq hz)).trans h4, (hb.cell (Nat.lt_of_lt_of_le hq hz)).trans h5, hk.trans (hb.mono hz), by omega⟩

set_option maxRecDepth 20000 in
theorem Tryz.compareLists (a b : List Val) (ad bd : Option Addr) (ca cb : Nat) (w : World) (ha : RowAt w w.heap.size ad a) (hb : RowAt w w.heap.size bd b) (la : a.length ≤ 9223372036854775807) :
    Calls Tryz.prog 24 #[.slice ad a.length ca, .slice bd b.length cb] w fun e w' => e = .returned (.int .i64 (cmpL a b)) ∧ Below w.heap.size w w' := by
  go_enter Tryz.func24, Tryz.ntmps24
  go_wp2
  go_loopw [12] (fun i wr => ∃ k : Nat, i = .int .i64 k ∧ k ≤ a.length ∧ k ≤ b.length ∧ cmpL (a.drop k) (b.drop k) = cmpL a b ∧ Below w.heap.size w wr) (fun i _ => a.length - (intOf i).toNat)
  case atStart => exact ⟨0, rfl, Nat.zero_le _, Nat.zero_le _, rfl, Below.refl _ _⟩
  case round =>
    obtain ⟨k, rfl, hka, hkb, hk, hw⟩ := hrel
    by_cases hlt : k < a.length ∧ k < b.length
    · obtain ⟨p, o, rfl, hp, c0, c1, c2, sa⟩ := ha.below hw k hlt.1
      obtain ⟨q, r, rfl, hq, d0, d1, d2, sb⟩ := hb.below hw k hlt.2
      go_wp2_with fail
      go_region_held3 (fun w' => w'.cell? ⟨p, o + k * 3, none⟩ = some (.int .i64 a[k].k) ∧ w'.cell? ⟨p, o + k * 3 + 1, none⟩ = some (.int .i64 a[k].n) ∧ w'.cell? ⟨p, o + k * 3 + 2, none⟩ = some (.string a[k].s) ∧
          w'.cell? ⟨q, r + k * 3, none⟩ = some (.int .i64 b[k].k) ∧ w'.cell? ⟨q, r + k * 3 + 1, none⟩ = some (.int .i64 b[k].n) ∧ w'.cell? ⟨q, r + k * 3 + 2, none⟩ = some (.string b[k].s) ∧ Below w.heap.size w w' ∧ w.heap.size ≤ w'.heap.size)
        (first | exact ⟨c0, c1, c2, d0, d1, d2, hw.drew, hw.size⟩ | exact rows_call hp hq (by assumption) (by assumption))
        (first
        | (go_at_call 53; refine (Tryz.compare a[k] b[k] sa sb _).mono ?_; rintro e w2 ⟨rfl, hb2⟩))
      rename_i hheld
      have hk2 : Below w.heap.size w w2 := hheld.2.2.2.2.2.2.1
      clear hheld
      go_wp2_with fail
      · rename_i hne
        go_ret
        exact ⟨congrArg (fun z => Ending.returned (.int .i64 z)) (by rw [← hk, cmpL_step hlt.1 hlt.2, if_pos (by simpa using hne)]), hk2⟩
      · rename_i hne
        go_roundw
        case rel => exact ⟨k + 1, by go_num, by omega, by omega, by rw [← hk, cmpL_step hlt.1 hlt.2, if_neg (by simpa using hne)], hk2⟩
        case measure => simp [intOf]; omega
    · go_wp2_with (first | (go_at_call 54; refine (Tryz.cmpInt _ _ _).mono ?_; rintro e w2 ⟨rfl, rfl⟩))
      go_ret
      exact ⟨congrArg (fun z => Ending.returned (.int .i64 z)) (by rw [← hk]; exact (cmpL_end (by omega) hka hkb).symm), hw⟩



end Go.Proofs
