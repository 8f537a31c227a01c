/- Of package cache: a token checked. The list has at most 100000000 numbers. -/
import Derived.Test.YtfkpcaaoodidhaaCheck
import Derived.Deep.RegionHeld3
namespace Go.Proofs
open Go.RowKit

theorem Try.contains (l : List Int) (ad : Option Addr) (ca : Nat) (x : Int) (w : World) (h : IntsAt w w.heap.size ad l) (la : l.length ≤ 100000000) :
    Calls Try.prog 24 #[.slice ad l.length ca, .int .i64 x] w fun e w' => e = .returned (.bool (l.contains x)) ∧ w = w' := by
  cases l with
  | nil =>
    refine (Try.slices_Contains_int_empty ad ca x w).mono ?_
    rintro e w' ⟨rfl, rfl⟩
    exact ⟨rfl, rfl⟩
  | cons y l =>
    obtain ⟨p, o, rfl, _⟩ := h 0 (by simp)
    refine (Try.slices_Contains_int p o (y :: l).length ca (y :: l) x w (Nat.le_refl _) (by omega) (fun j hj => ?_)).mono ?_
    · obtain ⟨p', o', h1, h2, h3, _⟩ := h j hj
      simp only [Option.some.injEq, Addr.mk.injEq, and_true] at h1
      obtain ⟨rfl, rfl⟩ := h1
      rw [h3, List.getD_eq_getElem?_getD, List.getElem?_eq_getElem hj]
      rfl
    · rintro e w' ⟨rfl, rfl⟩
      rw [List.take_of_length_le (Nat.le_refl _)]
      exact ⟨rfl, rfl⟩

def checkT (s : ByteArray) (l : List Int) (u h tenant now : Int) : Int :=
  if !tokOk s l u || !risesB l l.length || !inB tenant 0 999999999999999 || !inB now 0 253402300799 then 1
  else if h != hashL (keyL (sumL s u l)) then 16
  else if decide (u < now) || (decide (0 < l.length) && !l.contains tenant) then 22 else 0

/-- Behind w lies the box of a token. -/
def TokAt (w W : World) (v : Value) (u h : Int) : Prop := W.heap[w.heap.size]? = some (.cells #[v, .int .i64 u, .int .u64 h] 32) ∧ Below w.heap.size w W ∧ w.heap.size < W.heap.size

theorem TokAt.start (w : World) (v : Value) (u h : Int) : TokAt w (w.alloc (.cells #[v, .int .i64 u, .int .u64 h] 32)) v u h := ⟨heap_alloc_new _ _, (Below.refl _ _).alloc (Nat.le_refl _) _, by rw [alloc_one]; omega⟩

theorem TokAt.next {w W W' : World} {v : Value} {u h : Int} (hT : TokAt w W v u h) (hb : Below W.heap.size W W') : TokAt w W' v u h := by
  obtain ⟨h1, h2, h3⟩ := hT
  have := hb.size
  exact ⟨(hb.block _ h3).trans h1, h2.trans (hb.mono (Nat.le_of_lt h3)), by omega⟩

theorem TokAt.drewN {w W : World} {v : Value} {u h : Int} (hT : TokAt w W v u h) (n : Nat) : TokAt w (W.drewN n) v u h := ⟨hT.1, belowDrewN hT.2.1, hT.2.2⟩

theorem TokAt.cells {w W : World} {v : Value} {u h : Int} (hT : TokAt w W v u h) :
    W.cell? ⟨w.heap.size, 0, none⟩ = some v ∧ W.cell? ⟨w.heap.size, 1, none⟩ = some (.int .i64 u) ∧ W.cell? ⟨w.heap.size, 2, none⟩ = some (.int .u64 h) := by
  obtain ⟨h1, h2, h3⟩ := hT
  refine ⟨?_, ?_, ?_⟩ <;> simp [World.cell?, h1]

theorem risesB_one (l : List Int) : risesB l 1 = true := rfl

/-- What is held of the box of a token while a region draws. -/
def HeldT (p : Nat) (w1 w' : World) (v : Value) (u h : Int) : Prop := w'.cell? ⟨p, 0, none⟩ = some v ∧ w'.cell? ⟨p, 1, none⟩ = some (.int .i64 u) ∧ w'.cell? ⟨p, 2, none⟩ = some (.int .u64 h) ∧ Below w1.heap.size w1 w' ∧ w1.heap.size ≤ w'.heap.size

theorem held_tok {p : Nat} {w1 w2 w3 : World} {v x y : Value} (hp : p < w1.heap.size) (hS : w2.cell? ⟨p, 0, none⟩ = some v ∧ w2.cell? ⟨p, 1, none⟩ = some x ∧ w2.cell? ⟨p, 2, none⟩ = some y ∧ Below w1.heap.size w1 w2 ∧ w1.heap.size ≤ w2.heap.size) (hb : Below w2.heap.size w2 w3) :
    w3.cell? ⟨p, 0, none⟩ = some v ∧ w3.cell? ⟨p, 1, none⟩ = some x ∧ w3.cell? ⟨p, 2, none⟩ = some y ∧ Below w1.heap.size w1 w3 ∧ w1.heap.size ≤ w3.heap.size := by
  obtain ⟨h0, h1, h2, hk, hz⟩ := hS
  have hs := hb.size
  have hp2 := Nat.lt_of_lt_of_le hp hz
  exact ⟨(hb.cell hp2).trans h0, (hb.cell hp2).trans h1, (hb.cell hp2).trans h2, hk.trans (hb.mono hz), by omega⟩

theorem held_ints {p : Nat} {w1 w2 : World} {v x y : Value} {ad : Option Addr} {l : List Int} (h : IntsAt w1 w1.heap.size ad l) (hS : w2.cell? ⟨p, 0, none⟩ = some v ∧ w2.cell? ⟨p, 1, none⟩ = some x ∧ w2.cell? ⟨p, 2, none⟩ = some y ∧ Below w1.heap.size w1 w2 ∧ w1.heap.size ≤ w2.heap.size) : IntsAt w2 w2.heap.size ad l := h.later hS.2.2.2.1

set_option maxRecDepth 20000 in
set_option maxHeartbeats 2000000 in
theorem Try.checkToken (s : ByteArray) (hs : s.size ≤ 9223372036854775807) (l : List Int) (ad : Option Addr) (ca : Nat) (u hh tenant now : Int) (w : World) (h : IntsAt w w.heap.size ad l) (la : l.length ≤ 100000000) :
    Calls Try.prog 11 #[.string s, tokV (.slice ad l.length ca) u hh, .int .i64 tenant, .int .i64 now] w fun e w' => e = .returned (.int .i64 (checkT s l u hh tenant now)) ∧ Below w.heap.size w w' := by
  have hT := TokAt.start w (.slice ad l.length ca) u hh
  unfold tokV
  go_enter Try.func11, Try.ntmps11
  go_wp2_with fail
  generalize w.alloc (.cells #[.slice ad l.length ca, .int .i64 u, .int .u64 hh] 32) = W at hT ⊢
  go_loopw [9, 10] (fun b i wr => ∃ k : Nat, i = .int .i64 k ∧ 1 ≤ k ∧ (k = 1 ∨ k ≤ l.length) ∧ b = .bool (risesB l k) ∧ TokAt w wr (.slice ad l.length ca) u hh) (fun _ i _ => l.length - (intOf i).toNat)
  case atStart => exact ⟨1, rfl, Nat.le_refl _, .inl rfl, rfl, hT⟩
  case round =>
    obtain ⟨k, rfl, hk1, hkl, rfl, hR⟩ := hrel
    obtain ⟨c0, c1, c2⟩ := hR.cells
    by_cases hlt : k < l.length
    · obtain ⟨p, o, rfl, hp, e0, _, _⟩ := h.below hR.2.1 k hlt
      obtain ⟨p', o', he, _, e1, _, _⟩ := h.below hR.2.1 (k - 1) (by omega)
      simp only [Option.some.injEq, Addr.mk.injEq, and_true] at he
      obtain ⟨rfl, rfl⟩ := he
      obtain ⟨q, rfl⟩ : ∃ q, k = q + 1 := ⟨k - 1, by omega⟩
      simp only [Nat.add_sub_cancel] at e1
      have HS := Lib.hid (risesB_succ l (q + 1) (by omega))
      by_cases hb : risesB l (q + 1) = true
      · by_cases hc : l[q] < l[q + 1]
        · have HR : risesB l (q + 1 + 1) = true := by
            rw [HS.out, hb]
            simp only [Nat.add_sub_cancel, Bool.true_and, decide_eq_true_eq, List.getD_eq_getElem?_getD, List.getElem?_eq_getElem hlt, List.getElem?_eq_getElem (show q < l.length by omega), Option.getD_some]
            exact hc
          have HR := Lib.hid HR
          rw [hb]
          clear hb
          go_wp2_with fail
          go_quiet (fail)
          go_wp2_with fail
          go_roundw
          case rel => exact ⟨q + 1 + 1, by go_num, by omega, .inr (by omega), by rw [HR.out]; first | done | rfl | (simp; omega), hR.drewN _⟩
          case measure => simp [intOf]; omega
        · have HR : risesB l (q + 1 + 1) = false := by
            rw [HS.out, hb]
            simp only [Nat.add_sub_cancel, Bool.true_and, decide_eq_false_iff_not, List.getD_eq_getElem?_getD, List.getElem?_eq_getElem hlt, List.getElem?_eq_getElem (show q < l.length by omega), Option.getD_some]
            exact hc
          have HR := Lib.hid HR
          have hc' : l[q + 1] ≤ l[q] := by omega
          rw [hb]
          clear hb
          go_wp2_with fail
          go_quiet (fail)
          go_wp2_with fail
          go_roundw
          case rel => exact ⟨q + 1 + 1, by go_num, by omega, .inr (by omega), by rw [HR.out]; first | done | rfl | (simp; omega), hR.drewN _⟩
          case measure => simp [intOf]; omega
      · have hb' : risesB l (q + 1) = false := by simpa using hb
        have HR : risesB l (q + 1 + 1) = false := by rw [HS.out, hb']; rfl
        have HR := Lib.hid HR
        rw [hb']
        clear hb hb'
        go_wp2_with fail
        go_quiet (fail)
        go_wp2_with fail
        go_roundw
        case rel => exact ⟨q + 1 + 1, by go_num, by omega, .inr (by omega), by rw [HR.out]; first | done | rfl | (simp; omega), hR.drewN _⟩
        case measure => simp [intOf]; omega
    · have hk : risesB l k = risesB l l.length := by
        rcases hkl with rfl | hkl
        · cases hlen : l.length with
          | zero => rfl
          | succ m => rw [show m = 0 by omega]
        · rw [show k = l.length by omega]
      rw [hk]
      clear hk
      by_cases a1 : tokOk s l u = true
      · by_cases a2 : risesB l l.length = true
        · by_cases a3 : inB tenant 0 999999999999999 = true
          · by_cases a4 : inB now 0 253402300799 = true
            · go_upto_region 8 with (first
                | (go_at_call 15; refine (Try.rightToken s hs l ad ca u _ (h.later hR.2.1) (by omega)).mono ?_; rintro e w1 ⟨rfl, hb1⟩; have hT1 := hR.next hb1; obtain ⟨c0, c1, c2⟩ := hT1.cells)
                | (go_at_call 23; refine (Try.withinC _ _ _ _).mono ?_; rintro e w9 ⟨rfl, rfl⟩))
              have h1 := h.later hT1.2.1
              go_region_held3 (fun w' => w'.cell? ⟨w.heap.size, 0, none⟩ = some (.slice ad l.length ca) ∧ w'.cell? ⟨w.heap.size, 1, none⟩ = some (.int .i64 u) ∧ w'.cell? ⟨w.heap.size, 2, none⟩ = some (.int .u64 hh) ∧ Below w1.heap.size w1 w' ∧ w1.heap.size ≤ w'.heap.size)
                (first | exact ⟨c0, c1, c2, (Below.refl _ _).drew, Nat.le_refl _⟩ | exact held_tok hT1.2.2 (by assumption) (by assumption))
                (first
                | (go_at_call 18; refine (Try.tokenSum s hs l ad ca u _ (held_ints h1 (by assumption)) la).mono ?_; rintro e w2 ⟨rfl, hb2⟩))
              rename_i hheld
              obtain ⟨d0, d1, d2, hk, hz⟩ := hheld
              have h2 := h1.later hk
              have hbw := hT1.2.1.trans (hk.mono hT1.2.1.size)
              by_cases a5 : (hh != hashL (keyL (sumL s u l))) = true
              · go_wp2_with fail
                go_ret
                exact ⟨congrArg (fun z => Ending.returned (.int .i64 z)) (by show _ = checkT s l u hh tenant now; unfold checkT; simp [*]), hbw⟩
              · have a5' : (hh != hashL (keyL (sumL s u l))) = false := by simpa using a5
                clear a5
                go_wp2_with (first | (go_at_call 24; refine (Try.contains l ad ca tenant _ h2 la).mono ?_; rintro e w9 ⟨rfl, rfl⟩))
                all_goals go_ret
                all_goals exact ⟨congrArg (fun z => Ending.returned (.int .i64 z)) (by show _ = checkT s l u hh tenant now; unfold checkT; first | (simp [*]; done) | (simp_all; done) | grind), hbw⟩
            · have a4' : inB now 0 253402300799 = false := by simpa using a4
              go_wp2_with (first
                | (go_at_call 15; refine (Try.rightToken s hs l ad ca u _ (h.later hR.2.1) (by omega)).mono ?_; rintro e w1 ⟨rfl, hb1⟩; have hT1 := hR.next hb1; obtain ⟨c0, c1, c2⟩ := hT1.cells)
                | (go_at_call 23; refine (Try.withinC _ _ _ _).mono ?_; rintro e w9 ⟨rfl, rfl⟩))
              go_ret
              exact ⟨congrArg (fun z => Ending.returned (.int .i64 z)) (by show _ = checkT s l u hh tenant now; unfold checkT; simp [*]), hT1.2.1⟩
          · have a3' : inB tenant 0 999999999999999 = false := by simpa using a3
            go_wp2_with (first
                | (go_at_call 15; refine (Try.rightToken s hs l ad ca u _ (h.later hR.2.1) (by omega)).mono ?_; rintro e w1 ⟨rfl, hb1⟩; have hT1 := hR.next hb1; obtain ⟨c0, c1, c2⟩ := hT1.cells)
                | (go_at_call 23; refine (Try.withinC _ _ _ _).mono ?_; rintro e w9 ⟨rfl, rfl⟩))
            go_ret
            exact ⟨congrArg (fun z => Ending.returned (.int .i64 z)) (by show _ = checkT s l u hh tenant now; unfold checkT; simp [*]), hT1.2.1⟩
        · have a2' : risesB l l.length = false := by simpa using a2
          go_wp2_with (first
                | (go_at_call 15; refine (Try.rightToken s hs l ad ca u _ (h.later hR.2.1) (by omega)).mono ?_; rintro e w1 ⟨rfl, hb1⟩; have hT1 := hR.next hb1; obtain ⟨c0, c1, c2⟩ := hT1.cells)
                | (go_at_call 23; refine (Try.withinC _ _ _ _).mono ?_; rintro e w9 ⟨rfl, rfl⟩))
          go_ret
          exact ⟨congrArg (fun z => Ending.returned (.int .i64 z)) (by show _ = checkT s l u hh tenant now; unfold checkT; simp [*]), hT1.2.1⟩
      · have a1' : tokOk s l u = false := by simpa using a1
        go_wp2_with (first
                | (go_at_call 15; refine (Try.rightToken s hs l ad ca u _ (h.later hR.2.1) (by omega)).mono ?_; rintro e w1 ⟨rfl, hb1⟩; have hT1 := hR.next hb1; obtain ⟨c0, c1, c2⟩ := hT1.cells)
                | (go_at_call 23; refine (Try.withinC _ _ _ _).mono ?_; rintro e w9 ⟨rfl, rfl⟩))
        go_ret
        exact ⟨congrArg (fun z => Ending.returned (.int .i64 z)) (by show _ = checkT s l u hh tenant now; unfold checkT; simp [*]), hT1.2.1⟩
end Go.Proofs
