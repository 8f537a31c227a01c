/- Balance and BalanceOf: bad input; both answer alike; Equal of rows of places. No condition. -/
import Derived.Test.YtpmjkpdkkckoaaaGreatDoorNumM
import Derived.Laws.StructEq
import Derived.Test.YtpmjkpdkkckoaaaGreatDoorBalO
namespace Go.Proofs
open Go.RowKit Go.Level

theorem guard37 (op : BinOp) (x y : Operand) (a b c d a' b' c' d' : Int) (W : World) :
    (eqGuard op 37 x y (.agg #[.int .i64 a, .int .i64 b, .int .i64 c, .int .i64 d]) (.agg #[.int .i64 a', .int .i64 b', .int .i64 c', .int .i64 d'])).run Tryz.prog W = .ok () W :=
  run_eqGuard_agg W op 37 x y _ _ (by kernel_rfl)

theorem neq37 (a b c d : Int) (W : World) :
    (binOp .neq 37 (.agg #[.int .i64 a, .int .i64 b, .int .i64 c, .int .i64 d]) (.agg #[.int .i64 a, .int .i64 b, .int .i64 c, .int .i64 d])).run Tryz.prog W = .ok (.bool false) W := by
  have hf : Tryz.prog.underlying 37 = some (.struct (Tryz.prog.fieldsOf 37)) := by kernel_rfl
  have h : (Op.equalIn 10000 37 (.agg #[.int .i64 a, .int .i64 b, .int .i64 c, .int .i64 d]) (.agg #[.int .i64 a, .int .i64 b, .int .i64 c, .int .i64 d])).run Tryz.prog W = .ok true W := by
    rw [show (10000 : Nat) = 9999 + 1 from rfl, run_equalIn_agg W 9999 37 _ _ hf (by kernel_rfl)]
    simp [go_sem, Tryz.underlying37, Tryz.underlying3]
  rw [run_neq_struct, h]
  simp

theorem places_at (H A : Nat → Int) : ∀ n j, j < cntN H A n → ∃ a b c, (placesV H A n)[j * 4]? = some (.int .i64 a) ∧ (placesV H A n)[j * 4 + 1]? = some (.int .i64 b) ∧ (placesV H A n)[j * 4 + 2]? = some (.int .i64 c) ∧ (placesV H A n)[j * 4 + 3]? = some (.int .i64 0)
  | 0, _, h => absurd h (Nat.not_lt_zero _)
  | n + 1, j, h => by
    have hl := places_len H A n
    rw [placesV]
    by_cases hj : j < cntN H A n
    · obtain ⟨a, b, c, h0, h1, h2, h3⟩ := places_at H A n j hj
      exact ⟨a, b, c, by rw [List.getElem?_append_left (by omega)]; exact h0, by rw [List.getElem?_append_left (by omega)]; exact h1, by rw [List.getElem?_append_left (by omega)]; exact h2, by rw [List.getElem?_append_left (by omega)]; exact h3⟩
    · rw [cntN] at h
      by_cases he : A n = H n
      · rw [if_pos he] at h
        omega
      · rw [if_neg he] at h
        rw [if_neg he]
        have hj' : j = cntN H A n := by omega
        subst hj'
        refine ⟨n, H n, A n, ?_, ?_, ?_, ?_⟩ <;> rw [List.getElem?_append_right (by omega), hl]
        · simp
        · rw [Nat.add_sub_cancel_left]; rfl
        · rw [Nat.add_sub_cancel_left]; rfl
        · rw [Nat.add_sub_cancel_left]; rfl

/-- At the address lie the cells of a row of places. -/
def PlAt (w : World) (ad : Option Addr) (m : Nat) (xs : List Value) : Prop := ∀ j, j < m → ∃ p, ad = some ⟨p, 0, none⟩ ∧ ∀ i y, xs[i]? = some y → w.cell? ⟨p, i, none⟩ = some y

theorem PlAt.next {w w' : World} {ad : Option Addr} {m : Nat} {xs : List Value} (h : PlAt w ad m xs) (hb : Below w.heap.size w w') : PlAt w' ad m xs := fun j hj => by
  obtain ⟨p, h1, h2⟩ := h j hj
  exact ⟨p, h1, fun i y hy => cell_kept hb (h2 i y hy)⟩

theorem Plc.at {B : Nat} {v : Value} {n : Nat} {xs : List Value} {W0 w : World} (h : Plc B v n xs W0 w) : ∃ ad cap, v = .slice ad n cap ∧ PlAt w ad n xs := by
  obtain ⟨ad, cap, g, hv, h1, h2⟩ := h.slice
  exact ⟨ad, cap, hv, fun j hj => ⟨g, h1 (by omega), (h2 (by omega)).2⟩⟩

set_option maxRecDepth 20000 in
theorem Tryz.placesEqual {w : World} {H A : Nat → Int} {n : Nat} {ad bd : Option Addr} (ca cb : Nat) (ha : PlAt w ad (cntN H A n) (placesV H A n)) (hb : PlAt w bd (cntN H A n) (placesV H A n)) (hn : n ≤ 1000) :
    Calls Tryz.prog 11 #[.slice ad (cntN H A n) ca, .slice bd (cntN H A n) cb] w fun e w' => e = .returned (.bool true) ∧ Below w.heap.size w w' := by
  have q2 := neq37
  have q3 := guard37
  have hm := cnt_le H A n
  have hpl := Lib.hid (places_at H A n)
  generalize placesV H A n = xs at *
  generalize cntN H A n = m at *
  go_enter Tryz.func11, Tryz.ntmps11
  go_wp2_with fail
  go_loopw [13] (fun i wr => ∃ k : Nat, i = .int .i64 k ∧ k ≤ m ∧ Below w.heap.size w wr) (fun i _ => m - (intOf i).toNat)
  case atStart => exact ⟨0, rfl, Nat.zero_le _, Below.refl _ _⟩
  case round =>
    obtain ⟨k, rfl, hkl, hw⟩ := hrel
    by_cases hlt : k < m
    · obtain ⟨a, b, c, h0, h1, h2, h3⟩ := hpl.out k hlt
      obtain ⟨p, rfl, e⟩ := (ha.next hw) k hlt
      obtain ⟨q, rfl, f⟩ := (hb.next hw) k hlt
      have c0 := e _ _ h0
      have c1 := e _ _ h1
      have c2 := e _ _ h2
      have c3 := e _ _ h3
      have d0 := f _ _ h0
      have d1 := f _ _ h1
      have d2 := f _ _ h2
      have d3 := f _ _ h3
      clear e f h0 h1 h2 h3
      go_wp2_with fail
      go_quiet (fail)
      go_wp2_with fail
      go_roundw
      case rel => exact ⟨k + 1, by go_num, by omega, belowDrewN hw⟩
      case measure => simp [intOf]; omega
    · go_wp2_with fail
      go_ret
      exact ⟨rfl, hw⟩
end Go.Proofs

namespace Go.Proofs
open Go.RowKit Go.Level

/-- The answer to a bad form. -/
def badC (n1 n2 : Nat) (k : Int) : Int := if ¬(1 ≤ k ∧ k ≤ 8) then 1 else if n1 ≠ n2 then 3 else 2

set_option maxRecDepth 20000 in
theorem Tryz.balanceB (adL adH : Option Addr) (n1 n2 cL cH : Nat) (k : Int) (w : World) (h : ¬(1 ≤ k ∧ k ≤ 8) ∨ n1 ≠ n2 ∨ 200 < n1) :
    Calls Tryz.prog 9 #[.slice adL n1 cL, .slice adH n2 cH, .int .i64 k] w fun e w' => e = .returned (.tuple #[.slice none 0 0, .int .i64 (badC n1 n2 k)]) ∧ w' = w := by
  have hwi := Tryz.within k 1 8
  by_cases h1 : 1 ≤ k ∧ k ≤ 8
  · have hd1 : decide (1 ≤ k ∧ k ≤ 8) = true := by simp [h1]
    by_cases h2 : n1 = n2
    · subst h2
      have h3 : 200 < n1 := by omega
      have hb : badC n1 n1 k = 2 := by unfold badC; rw [if_neg (fun h => h h1), if_neg (fun h => h rfl)]
      rw [hb]
      clear hb h
      go_enter Tryz.func9, Tryz.ntmps9
      go_wp2_with (first | (go_at_call 15; refine (hwi _).mono ?_; rw [hd1]; rintro e w2 ⟨rfl, hq⟩; rw [hq]; clear hq w2))
      go_ret2
      exact ⟨rfl, rfl⟩
    · have h3 : ¬((n1 : Int) = n2) := by omega
      have hb : badC n1 n2 k = 3 := by unfold badC; rw [if_neg (fun h => h h1), if_pos h2]
      rw [hb]
      clear hb h
      go_enter Tryz.func9, Tryz.ntmps9
      go_wp2_with (first | (go_at_call 15; refine (hwi _).mono ?_; rw [hd1]; rintro e w2 ⟨rfl, hq⟩; rw [hq]; clear hq w2))
      go_ret2
      exact ⟨rfl, rfl⟩
  · have hd1 : decide (1 ≤ k ∧ k ≤ 8) = false := by simp only [h1, decide_false]
    have hb : badC n1 n2 k = 1 := by unfold badC; rw [if_pos h1]
    rw [hb]
    clear hb h
    go_enter Tryz.func9, Tryz.ntmps9
    go_wp2_with (first | (go_at_call 15; refine (hwi _).mono ?_; rw [hd1]; rintro e w2 ⟨rfl, hq⟩; rw [hq]; clear hq w2))
    go_ret2
    exact ⟨rfl, rfl⟩

set_option maxRecDepth 20000 in
theorem Tryz.balanceOfB (adL adH : Option Addr) (n1 n2 cL cH : Nat) (k : Int) (w : World) (h : ¬(1 ≤ k ∧ k ≤ 8) ∨ n1 ≠ n2 ∨ 200 < n1) :
    Calls Tryz.prog 10 #[.slice adL n1 cL, .slice adH n2 cH, .int .i64 k] w fun e w' => e = .returned (.tuple #[.slice none 0 0, .int .i64 (badC n1 n2 k)]) ∧ w' = w := by
  by_cases h1 : 1 ≤ k
  · by_cases h4 : k ≤ 8
    · by_cases h2 : n1 = n2
      · subst h2
        have h3 : 200 < n1 := by omega
        have hb : badC n1 n1 k = 2 := by unfold badC; rw [if_neg (fun h => h ⟨h1, h4⟩), if_neg (fun h => h rfl)]
        rw [hb]
        clear hb h
        go_enter Tryz.func10, Tryz.ntmps10
        go_wp2_with fail
        go_ret2
        exact ⟨rfl, rfl⟩
      · have h3 : ¬((n1 : Int) = n2) := by omega
        have hb : badC n1 n2 k = 3 := by unfold badC; rw [if_neg (fun h => h ⟨h1, h4⟩), if_pos h2]
        rw [hb]
        clear hb h
        go_enter Tryz.func10, Tryz.ntmps10
        go_wp2_with fail
        go_ret2
        exact ⟨rfl, rfl⟩
    · have hb : badC n1 n2 k = 1 := by unfold badC; rw [if_pos (by omega)]
      rw [hb]
      clear hb h
      go_enter Tryz.func10, Tryz.ntmps10
      go_wp2_with fail
      go_ret2
      exact ⟨rfl, rfl⟩
  · have hb : badC n1 n2 k = 1 := by unfold badC; rw [if_pos (by omega)]
    rw [hb]
    clear hb h
    go_enter Tryz.func10, Tryz.ntmps10
    go_wp2_with fail
    go_ret2
    exact ⟨rfl, rfl⟩

def okAt (L H : Nat → Int) (k : Nat) (b : Nat) : Prop := (0 ≤ L b ∧ L b ≤ 4999999999999) ∧ 0 ≤ H b ∧ H b < k

theorem first_bad (L H : Nat → Int) (k : Nat) : ∀ n, ¬Good L H n k → ∃ b, b < n ∧ Good L H b k ∧ ¬okAt L H k b
  | 0, h => absurd (fun j hj => absurd hj (Nat.not_lt_zero j)) h
  | n + 1, h => by
    by_cases h1 : Good L H n k
    · refine ⟨n, by omega, h1, fun h2 => h fun j hj => ?_⟩
      by_cases e : j = n
      · subst e; exact h2
      · exact h1 j (by omega)
    · obtain ⟨b, h2, h3⟩ := first_bad L H k n h1
      exact ⟨b, by omega, h3⟩

set_option maxRecDepth 20000 in
set_option maxHeartbeats 800000 in
theorem Tryz.balanceW {w : World} {pL oL pH oH n k : Nat} {adL adH : Option Addr} (cL cH : Nat) {L H : Nat → Int} (hadL : 0 < n → adL = some ⟨pL, oL, none⟩) (hadH : 0 < n → adH = some ⟨pH, oH, none⟩) (hL : Given w pL oL n L) (hH : Given w pH oH n H) (hn : n ≤ 200) (hk : 0 < k) (hk8 : k ≤ 8) (hg : ¬Good L H n k) :
    Calls Tryz.prog 9 #[.slice adL n cL, .slice adH n cH, .int .i64 k] w fun e w' => e = .returned (.tuple #[.slice none 0 0, .int .i64 1]) ∧ Below w.heap.size w w' := by
  obtain ⟨b, hbn, hg, hbad⟩ := first_bad L H k n hg
  obtain rfl := hadL (by omega)
  obtain rfl := hadH (by omega)
  obtain ⟨cs, hcs, hz, hmk⟩ := make_nums (k := k) (by omega)
  have hwi := Tryz.within k 1 8
  have hd1 : decide ((1 : Int) ≤ k ∧ (k : Int) ≤ 8) = true := by simp; omega
  go_enter Tryz.func9, Tryz.ntmps9
  go_wp2_with (first | (go_at_call 15; refine (hwi _).mono ?_; rw [hd1]; rintro e w2 ⟨rfl, hq⟩; rw [hq]; clear hq w2))
  have hS0 : Nums (w.alloc (.cells cs 3)) w.heap.size k (sums L H 0) := fun _ => ⟨cs, heap_alloc_new' _ _, by omega, fun j hj => (hz j hj)⟩
  have hw0 : Below w.heap.size w (w.alloc (.cells cs 3)) := (Below.refl _ _).alloc (Nat.le_refl _) _
  have hsz := ex_alloc_size w (.cells cs 3)
  generalize w.alloc (.cells cs 3) = W1 at hS0 hw0 hsz ⊢
  clear hwi hd1 hmk hz hcs
  go_loopw [40] (fun v wr => ∃ i : Nat, v = .int .i64 i ∧ i ≤ b ∧ Below w.heap.size w wr ∧ w.heap.size < wr.heap.size ∧ Nums wr w.heap.size k (sums L H i)) (fun v _ => n - (intOf v).toNat)
  case atStart => exact ⟨0, rfl, Nat.zero_le _, hw0, by omega, hS0⟩
  case round =>
    obtain ⟨i, rfl, hi, hwr, hsr, hS⟩ := hrel
    clear hS0 hw0
    have c1 := (hL.next hwr) i (by omega)
    have c2 := (hH.next hwr) i (by omega)
    have hin : i < n := by omega
    by_cases hib : i < b
    · obtain ⟨hg1, hg2⟩ := hg i hib
      have hb := sum_bounds (L := L) H (H i) (M := 4999999999999) (n := i) fun j hj => (hg j (by omega)).1
      obtain ⟨h, hh⟩ := Int.eq_ofNat_of_zero_le hg2.1
      have hhk : h < k := by omega
      obtain ⟨c3, c4⟩ := hS.cell hhk
      have hset := fun v hv => hS.set (g := sums L H (i + 1)) (i := h) (v := v) hv fun j hj => by unfold sums; rw [sumN, if_neg (by omega)]; omega
      have hnx : sums L H (i + 1) h = sums L H i h + L i := by unfold sums; rw [sumN, hh, if_pos rfl]
      rw [hh] at c2 hb
      have hb' : 0 ≤ sums L H i h ∧ sums L H i h ≤ 4999999999999 * i := hb
      clear hbad
      generalize sums L H i h = x at *
      generalize L i = y at *
      have hwi := Tryz.within y 0 4999999999999
      have hd1 : decide ((0 : Int) ≤ y ∧ y ≤ 4999999999999) = true := by simp; omega
      have hwi2 := Tryz.within h 0 ((k : Int) - 1)
      have hd2 : decide ((0 : Int) ≤ h ∧ (h : Int) ≤ (k : Int) - 1) = true := by simp; omega
      go_wp2_with (first | (go_at_call 15; first | (with_reducible refine Calls.mono (hwi _) ?_; rw [hd1]; rintro e w2 ⟨rfl, hq⟩; rw [hq]; clear hq w2) | (with_reducible refine Calls.mono (hwi2 _) ?_; rw [hd2]; rintro e w2 ⟨rfl, hq⟩; rw [hq]; clear hq w2)))
      go_roundw
      case rel => exact ⟨i + 1, by go_num, by omega, below_set hwr (Nat.le_refl _), by rw [size_set]; exact hsr, hset _ hnx.symm⟩
      case measure => simp [intOf]; omega
    · obtain rfl : b = i := by omega
      unfold okAt at hbad
      generalize L b = y at *
      generalize H b = h at *
      have hwi := Tryz.within y 0 4999999999999
      have hwi2 := Tryz.within h 0 ((k : Int) - 1)
      by_cases hy : (0 : Int) ≤ y ∧ y ≤ 4999999999999
      · have hd1 : decide ((0 : Int) ≤ y ∧ y ≤ 4999999999999) = true := by simp; omega
        have hd2 : decide ((0 : Int) ≤ h ∧ (h : Int) ≤ (k : Int) - 1) = false := by simp; omega
        clear hbad
        go_wp2_with (first | (go_at_call 15; first | (with_reducible refine Calls.mono (hwi _) ?_; rw [hd1]; rintro e w2 ⟨rfl, hq⟩; rw [hq]; clear hq w2) | (with_reducible refine Calls.mono (hwi2 _) ?_; rw [hd2]; rintro e w2 ⟨rfl, hq⟩; rw [hq]; clear hq w2)))
        go_ret2
        exact ⟨rfl, hwr⟩
      · have hd1 : decide ((0 : Int) ≤ y ∧ y ≤ 4999999999999) = false := by simp only [hy, decide_false]
        clear hbad
        go_wp2_with (first | (go_at_call 15; with_reducible refine Calls.mono (hwi _) ?_; rw [hd1]; rintro e w2 ⟨rfl, hq⟩; rw [hq]; clear hq w2))
        go_ret2
        exact ⟨rfl, hwr⟩

set_option maxRecDepth 20000 in
set_option maxHeartbeats 800000 in
theorem Tryz.balanceOfW {w : World} {pL oL pH oH n k : Nat} {adL adH : Option Addr} (cL cH : Nat) {L H : Nat → Int} (hadL : 0 < n → adL = some ⟨pL, oL, none⟩) (hadH : 0 < n → adH = some ⟨pH, oH, none⟩) (hL : Given w pL oL n L) (hH : Given w pH oH n H) (hn : n ≤ 200) (hk : 0 < k) (hk8 : k ≤ 8) (hg : ¬Good L H n k) :
    Calls Tryz.prog 10 #[.slice adL n cL, .slice adH n cH, .int .i64 k] w fun e w' => e = .returned (.tuple #[.slice none 0 0, .int .i64 1]) ∧ Below w.heap.size w w' := by
  obtain ⟨b, hbn, hg, hbad⟩ := first_bad L H k n hg
  have hcl := Tryz.clone cH hadH hH (by omega)
  obtain rfl := hadL (by omega)
  obtain rfl := hadH (by omega)
  go_enter Tryz.func10, Tryz.ntmps10
  go_wp2_with fail
  refine Calls.mono hcl ?_
  rintro e w2 ⟨adA, cA, g, rfl, -, -, -, hb2⟩
  clear hcl
  go_wp2_with fail
  go_loopw [46] (fun v wr => ∃ i : Nat, v = .int .i64 i ∧ i ≤ b ∧ w2 = wr) (fun v _ => n - (intOf v).toNat)
  case atStart => exact ⟨0, rfl, Nat.zero_le _, rfl⟩
  case round =>
    obtain ⟨i, rfl, hi, rfl⟩ := hrel
    have hin : i < n := by omega
    have c1 := (hL.next hb2) i hin
    have c2 := (hH.next hb2) i hin
    by_cases hib : i < b
    · obtain ⟨⟨hg1, hg2⟩, hg3, hg4⟩ := hg i hib
      clear hbad
      generalize L i = y at *
      generalize H i = h at *
      go_wp2_with fail
      go_roundw
      case rel => exact ⟨i + 1, by go_num, by omega, True.intro⟩
      case measure => simp [intOf]; omega
    · obtain rfl : b = i := by omega
      unfold okAt at hbad
      generalize L b = y at *
      generalize H b = h at *
      by_cases h1 : y < 0
      · clear hbad
        go_wp2_with fail
        go_ret2
        exact ⟨rfl, hb2⟩
      · by_cases h2 : 4999999999999 < y
        · clear hbad
          go_wp2_with fail
          go_ret2
          exact ⟨rfl, hb2⟩
        · by_cases h3 : h < 0
          · clear hbad
            go_wp2_with fail
            go_ret2
            exact ⟨rfl, hb2⟩
          · have h4 : k ≤ h := by omega
            clear hbad
            go_wp2_with fail
            go_ret2
            exact ⟨rfl, hb2⟩

/-- The moves come to an end. -/
theorem ends_exist (L : Nat → Int) (n : Nat) {k : Nat} (hk : 0 < k) : ∀ (m : Nat) (A : Nat → Int), (sqN (sums L A n) k).toNat < m → ∃ B, Level.Ends L n k A B
  | 0, _, h => absurd h (Nat.not_lt_zero _)
  | m + 1, A, h => by
    by_cases h1 : (nextM L A n k).1 < 0
    · exact ⟨A, .done h1⟩
    · obtain ⟨i, hi⟩ := Int.eq_ofNat_of_zero_le (show 0 ≤ (nextM L A n k).1 by omega)
      have h2 := (next_less L A hk hi).2.2.2.2
      have h3 := sq_nonneg (sums L (Level.move A i (loN (sums L A n) k)) n) k
      obtain ⟨B, hB⟩ := ends_exist L n hk m (Level.move A i (loN (sums L A n) k)) (by omega)
      exact ⟨B, .step hi hB⟩

/-- Both answer alike. -/
theorem Tryz.both {w : World} {pL oL pH oH n1 n2 : Nat} {k : Int} {adL adH : Option Addr} (cL cH : Nat) {L H : Nat → Int} (hadL : 0 < n1 → adL = some ⟨pL, oL, none⟩) (hadH : 0 < n2 → adH = some ⟨pH, oH, none⟩) (hL : Given w pL oL n1 L) (hH : Given w pH oH n2 H) :
    ∃ (c : Int) (H' A : Nat → Int) (n : Nat), n ≤ 200 ∧ ∀ W, Below w.heap.size w W →
      (Calls Tryz.prog 9 #[.slice adL n1 cL, .slice adH n2 cH, .int .i64 k] W fun e W' => ∃ v, e = .returned (.tuple #[v, .int .i64 c]) ∧ Plc W.heap.size v (cntN H' A n) (placesV H' A n) W W') ∧
      (Calls Tryz.prog 10 #[.slice adL n1 cL, .slice adH n2 cH, .int .i64 k] W fun e W' => ∃ v, e = .returned (.tuple #[v, .int .i64 c]) ∧ Plc W.heap.size v (cntN H' A n) (placesV H' A n) W W') := by
  have nil : ∀ {W W' : World}, Below W.heap.size W W' → Plc W.heap.size (.slice none 0 0) 0 [] W W' := fun hb => ⟨World.ownsRow_nil _ _ _ _, hb, hb.size⟩
  by_cases h0 : ¬(1 ≤ k ∧ k ≤ 8) ∨ n1 ≠ n2 ∨ 200 < n1
  · refine ⟨badC n1 n2 k, H, H, 0, by omega, fun W hW => ⟨?_, ?_⟩⟩
    · refine (Tryz.balanceB adL adH n1 n2 cL cH k W h0).mono ?_
      rintro e W' ⟨rfl, rfl⟩
      exact ⟨_, rfl, nil (Below.refl _ _)⟩
    · refine (Tryz.balanceOfB adL adH n1 n2 cL cH k W h0).mono ?_
      rintro e W' ⟨rfl, rfl⟩
      exact ⟨_, rfl, nil (Below.refl _ _)⟩
  · obtain ⟨q, rfl⟩ := Int.eq_ofNat_of_zero_le (show 0 ≤ k by omega)
    obtain rfl : n1 = n2 := by omega
    have hq : 0 < q := by omega
    have hq8 : q ≤ 8 := by omega
    have hn : n1 ≤ 200 := by omega
    by_cases hg : Good L H n1 q
    · obtain ⟨A, hA⟩ := ends_exist L n1 hq _ H (Nat.lt_succ_self _)
      refine ⟨0, H, A, n1, hn, fun W hW => ⟨?_, ?_⟩⟩
      · refine (Tryz.balance cL cH hadL hadH (hL.next hW) (hH.next hW) hn hq hq8 hg).mono ?_
        rintro e W' ⟨B, v, rfl, hB, hP⟩
        rw [hB.same hA] at hP
        exact ⟨v, rfl, hP⟩
      · refine (Tryz.balanceOf cL cH hadL hadH (hL.next hW) (hH.next hW) hn hq hq8 hg).mono ?_
        rintro e W' ⟨B, v, rfl, hB, hP⟩
        rw [hB.same hA] at hP
        exact ⟨v, rfl, hP⟩
    · refine ⟨1, H, H, 0, by omega, fun W hW => ⟨?_, ?_⟩⟩
      · refine (Tryz.balanceW cL cH hadL hadH (hL.next hW) (hH.next hW) hn hq hq8 hg).mono ?_
        rintro e W' ⟨rfl, hb⟩
        exact ⟨_, rfl, nil hb⟩
      · refine (Tryz.balanceOfW cL cH hadL hadH (hL.next hW) (hH.next hW) hn hq hq8 hg).mono ?_
        rintro e W' ⟨rfl, hb⟩
        exact ⟨_, rfl, nil hb⟩
end Go.Proofs
