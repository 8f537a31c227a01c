/- Of package shards: Balance. No condition. -/
import Derived.Test.YtpmjkpdkkckoaaaGreatDoorNumM
import Derived.Lib.Hide
namespace Go.Proofs
open Go.RowKit Go.Level

/-- A good input: loads and homes in their bounds. -/
def Good (L H : Nat → Int) (n k : Nat) : Prop := ∀ j, j < n → (0 ≤ L j ∧ L j ≤ 4999999999999) ∧ 0 ≤ H j ∧ H j < k

set_option maxRecDepth 20000 in
set_option maxHeartbeats 800000 in
theorem Tryz.balance {w : World} {pL oL pH oH n k : Nat} {adL adH : Option Addr} (cL cH : Nat) {L H : Nat → Int} (hadL : 0 < n → adL = some ⟨pL, oL, none⟩) (hadH : 0 < n → adH = some ⟨pH, oH, none⟩) (hL : Given w pL oL n L) (hH : Given w pH oH n H) (hn : n ≤ 200) (hk : 0 < k) (hk8 : k ≤ 8) (hg : Good L H n k) :
    Calls Tryz.prog 9 #[.slice adL n cL, .slice adH n cH, .int .i64 k] w fun e w' => ∃ A v, e = .returned (.tuple #[v, .int .i64 0]) ∧ Level.Ends L n k H A ∧ Plc w.heap.size v (cntN H A n) (placesV H A n) w w' := by
  obtain ⟨cs, hcs, hz, hmk⟩ := make_nums (k := k) (by omega)
  have hwi := Tryz.within k 1 8
  have hd1 : decide ((1 : Int) ≤ k ∧ (k : Int) ≤ 8) = true := by simp; omega
  go_enter Tryz.func9, Tryz.ntmps9
  go_wp2_with (first | (go_at_call 15; refine (hwi _).mono ?_; rw [hd1]; rintro e w2 ⟨rfl, hq⟩; rw [hq]; clear hq w2))
  have hS0 : Nums (w.alloc (.cells cs 3)) w.heap.size k (sums L H 0) := fun _ => ⟨cs, heap_alloc_new' _ _, by omega, fun j hj => (hz j hj)⟩
  have hw0 : Below w.heap.size w (w.alloc (.cells cs 3)) := (Below.refl _ _).alloc (Nat.le_refl _) _
  have hsz := ex_alloc_size w (.cells cs 3)
  generalize w.alloc (.cells cs 3) = W1 at hS0 hw0 hsz ⊢
  clear hwi hd1 hmk hz hcs
  go_loopw [40] (fun v wr => ∃ i : Nat, v = .int .i64 i ∧ i ≤ n ∧ Below w.heap.size w wr ∧ w.heap.size < wr.heap.size ∧ Nums wr w.heap.size k (sums L H i)) (fun v _ => n - (intOf v).toNat)
  case atStart => exact ⟨0, rfl, Nat.zero_le _, hw0, by omega, hS0⟩
  case round =>
    obtain ⟨i, rfl, hi, hwr, hsr, hS⟩ := hrel
    clear hS0 hw0
    by_cases hin : i < n
    · obtain rfl := hadL (by omega)
      obtain rfl := hadH (by omega)
      have c1 := (hL.next hwr) i hin
      have c2 := (hH.next hwr) i hin
      obtain ⟨hg1, hg2⟩ := hg i hin
      have hb := sum_bounds (L := L) H (H i) (M := 4999999999999) (n := i) fun j hj => (hg j (by omega)).1
      obtain ⟨h, hh⟩ := Int.eq_ofNat_of_zero_le hg2.1
      have hhk : h < k := by omega
      obtain ⟨c3, c4⟩ := hS.cell hhk
      have hset := fun v hv => hS.set (g := sums L H (i + 1)) (i := h) (v := v) hv fun j hj => by unfold sums; rw [sumN, if_neg (by omega)]; omega
      have hnx : sums L H (i + 1) h = sums L H i h + L i := by unfold sums; rw [sumN, hh, if_pos rfl]
      rw [hh] at c2 hb
      have hb' : 0 ≤ sums L H i h ∧ sums L H i h ≤ 4999999999999 * i := hb
      generalize sums L H i h = x at *
      generalize L i = y at *
      have hwi := Tryz.within y 0 4999999999999
      have hd1 : decide ((0 : Int) ≤ y ∧ y ≤ 4999999999999) = true := by simp; omega
      have hwi2 := Tryz.within h 0 ((k : Int) - 1)
      have hd2 : decide ((0 : Int) ≤ h ∧ (h : Int) ≤ (k : Int) - 1) = true := by simp; omega
      go_wp2_with (first | (go_at_call 15; first | (with_reducible refine Calls.mono (hwi _) ?_; rw [hd1]; rintro e w2 ⟨rfl, hq⟩; rw [hq]; clear hq w2) | (with_reducible refine Calls.mono (hwi2 _) ?_; rw [hd2]; rintro e w2 ⟨rfl, hq⟩; rw [hq]; clear hq w2)))
      go_roundw
      case rel => exact ⟨i + 1, by go_num, by omega, below_set hwr (Nat.le_refl _), by rw [size_set]; exact hsr, hset _ hnx.symm⟩
      case measure => simp [intOf]; omega
    · have hin' : i = n := by omega
      subst hin'
      have hcl := Tryz.clone cH hadH (hH.next hwr) (by omega)
      go_wp2_with fail
      refine Calls.mono hcl ?_
      rintro e w2 ⟨adA, cA, g, rfl, hg1, hadA, hA, hb2⟩
      clear hcl
      have hS2 := hS.next hb2
      have hw2 := below_next hwr hb2
      have hs2 : w.heap.size < w2.heap.size := by have := hb2.size; omega
      have hgs : w.heap.size < g := by omega
      clear hS hb2 hwr hsr hg1
      go_wp2_with fail
      go_loopw [] (fun wr => ∃ A : Nat → Int, Below w.heap.size w wr ∧ Nums wr w.heap.size k (sums L A i) ∧ Nums wr g i A ∧ (∀ j, j < i → 0 ≤ A j ∧ A j < k) ∧ Hid (∀ B, Level.Ends L i k A B → Level.Ends L i k H B)) (fun wr => (sqN (cellI wr w.heap.size) k).toNat)
      case atStart => exact ⟨H, hw2, hS2, hA, fun j hj => (hg j hj).2, Lib.hid fun _ h => h⟩
      case round =>
        obtain ⟨A, hwr, hS, hAt, hAk, hE⟩ := hrel
        obtain ⟨wm, rfl⟩ : ∃ wm : World, wm = wr := ⟨_, rfl⟩
        clear hS2 hA hw2 hs2
        have hf := hi_lt (sums L A i) k hk
        have ht := lo_lt (sums L A i) k hk
        have hmx := Tryz.maxN hS hk hk8 k
        have hmn := Tryz.minN hS hk hk8 k
        have hix := Tryz.idxHi hS hk hk8 k
        have hiy := Tryz.idxLo hS hk hk8 k
        have hnM : nextM L A i k = bestN L A (hiN (sums L A i) k) (loN (sums L A i) k) (sums L A i (hiN (sums L A i) k)) (sums L A i (loN (sums L A i) k)) i := rfl
        have hnl := fun j h => @next_less L A i k j hk h
        have cf := (hS.cell hf).1
        have ct := (hS.cell ht).1
        have bf := sum_bounds (L := L) A (hiN (sums L A i) k) (M := 4999999999999) (n := i) fun j hj => (hg j hj).1
        have bt := sum_bounds (L := L) A (loN (sums L A i) k) (M := 4999999999999) (n := i) fun j hj => (hg j hj).1
        have hxe : sumN L A (hiN (sums L A i) k) i = sums L A i (hiN (sums L A i) k) := rfl
        have hye : sumN L A (loN (sums L A i) k) i = sums L A i (loN (sums L A i) k) := rfl
        rw [hxe] at bf
        rw [hye] at bt
        clear hxe hye
        generalize hfe : hiN (sums L A i) k = f at *
        generalize hte : loN (sums L A i) k = t at *
        replace hfe := Lib.hid hfe
        replace hte := Lib.hid hte
        generalize hxe : sums L A i f = x at *
        generalize hye : sums L A i t = y at *
        replace hxe := Lib.hid hxe
        replace hye := Lib.hid hye
        replace hnM := Lib.hid hnM
        replace hnl := Lib.hid hnl
        go_upto_region 17 with (first
          | (with_reducible refine Calls.mono hmx ?_; rintro e w3 ⟨rfl, hq⟩; rw [hq]; clear hq w3)
          | (with_reducible refine Calls.mono hix ?_; rintro e w3 ⟨rfl, hq⟩; rw [hq]; clear hq w3)
          | (with_reducible refine Calls.mono hmn ?_; rintro e w3 ⟨rfl, hq⟩; rw [hq]; clear hq w3)
          | (with_reducible refine Calls.mono hiy ?_; rintro e w3 ⟨rfl, hq⟩; rw [hq]; clear hq w3))
        clear hmx hix hmn hiy
        go_quiet (fail)
        have hwd : Below wm.heap.size wm (wm.drewN nq) := belowDrewN (Below.refl _ _)
        generalize wm.drewN nq = W2 at hwd ⊢
        clear cf ct
        go_wp2_with fail
        go_loopw [14, 15, 85] (fun bv lv v wq => ∃ m : Nat, v = .int .i64 m ∧ m ≤ i ∧ Below wm.heap.size wm wq ∧ bv = .int .i64 (bestN L A f t x y m).1 ∧ lv = .int .i64 (bestN L A f t x y m).2) (fun _ _ v _ => i - (intOf v).toNat)
        case atStart => exact ⟨0, rfl, Nat.zero_le _, hwd, rfl, rfl⟩
        case round =>
          obtain ⟨m, rfl, hm, hwq, rfl, rfl⟩ := hrel
          clear hwd
          have hwr2 := below_next hwr hwq
          by_cases hmi : m < i
          · obtain rfl := hadL (by omega)
            obtain rfl := hadA (by omega)
            have c1 := (hL.next hwr2) m hmi
            have c2 := ((hAt.next hwq).cell hmi).1
            have c3 := ((hS.next hwq).cell hf).1
            have c4 := ((hS.next hwq).cell ht).1
            rw [hxe.out] at c3
            rw [hye.out] at c4
            obtain ⟨hg1, -⟩ := hg m hmi
            have hst : bestN L A f t x y (m + 1) = if A m = f ∧ (f : Int) ≠ t ∧ max (x - L m) (y + L m) < (bestN L A f t x y m).2 then ((m : Int), max (x - L m) (y + L m)) else bestN L A f t x y m := rfl
            have hrl := (best_facts L A f t x y m).1
            generalize bestN L A f t x y m = r at *
            generalize L m = z at *
            replace hst := Lib.hid hst
            by_cases h1 : A m = f
            · rw [h1] at c2
              by_cases h2 : f = t
              · go_wp2_with fail
                go_roundw
                case rel => exact ⟨m + 1, by go_num, by omega, hwq, by rw [hst.out, if_neg (by omega)], by rw [hst.out, if_neg (by omega)]⟩
                case measure => simp [intOf]; omega
              · go_upto_region 22 with fail
                go_quiet (fail)
                have hwd := belowDrewN (n := nq) hwq
                generalize wr.drewN nq = W3 at hwd ⊢
                clear c1 c2 c3 c4 hwq hwr2
                by_cases h3 : max (x - z) (y + z) < r.2
                · generalize max (x - z) (y + z) = q at *
                  go_wp2_with fail
                  go_roundw
                  case rel => exact ⟨m + 1, by go_num, by omega, hwd, by rw [hst.out, if_pos ⟨h1, by omega, h3⟩], by rw [hst.out, if_pos ⟨h1, by omega, h3⟩]⟩
                  case measure => simp [intOf]; omega
                · have hq : ¬(A m = f ∧ (f : Int) ≠ t ∧ max (x - z) (y + z) < r.2) := fun h => h3 h.2.2
                  rw [if_neg hq] at hst
                  clear hq
                  generalize max (x - z) (y + z) = q at *
                  go_wp2_with fail
                  go_roundw
                  case rel => exact ⟨m + 1, by go_num, by omega, hwd, by rw [hst.out], by rw [hst.out]⟩
                  case measure => simp [intOf]; omega
            · generalize A m = a at *
              go_wp2_with fail
              go_roundw
              case rel => exact ⟨m + 1, by go_num, by omega, hwq, by rw [hst.out, if_neg (by omega)], by rw [hst.out, if_neg (by omega)]⟩
              case measure => simp [intOf]; omega
          · obtain rfl : m = i := by omega
            rw [← hnM.out] at *
            have hr := hnl.out
            have hdn := @Ends.done L m k A
            have hsp := @Ends.step L m k A
            generalize nextM L A m k = r at *
            replace hnl := hr
            clear hr
            by_cases h1 : r.1 < 0
            · have hAq := hAt.next hwq
              have hP0 : Plc w.heap.size (.slice none 0 0) 0 [] w wr := ⟨World.ownsRow_nil _ _ _ _, hwr2, hwr2.size⟩
              have hEnd := hE.out A (hdn h1)
              replace hEnd := Lib.hid hEnd
              clear hE hdn hsp hnl hAt hS hwq
              go_wp2_with fail
              obtain ⟨wz, rfl⟩ : ∃ wz : World, wz = wr := ⟨_, rfl⟩
              go_loopw [19, 152] (fun ov v wq => ∃ j : Nat, v = .int .i64 j ∧ j ≤ m ∧ Plc w.heap.size ov (cntN H A j) (placesV H A j) w wq ∧ Nums wq g m A) (fun _ v _ => m - (intOf v).toNat)
              case atStart => exact ⟨0, rfl, Nat.zero_le _, hP0, hAq⟩
              case round =>
                obtain ⟨j, rfl, hj, hP, hAj⟩ := hrel
                clear hP0 hAq
                by_cases hjm : j < m
                · obtain rfl := hadH (by omega)
                  obtain rfl := hadA (by omega)
                  have c1 := (hH.next hP.2.1) j hjm
                  have c2 := (hAj.cell hjm).1
                  have hcn := cnt_le H A j
                  have hc1 : cntN H A (j + 1) = cntN H A j + if A j = H j then 0 else 1 := rfl
                  have hp1 : placesV H A (j + 1) = placesV H A j ++ if A j = H j then [] else [.int .i64 j, .int .i64 (H j), .int .i64 (A j), .int .i64 0] := rfl
                  replace hc1 := Lib.hid hc1
                  replace hp1 := Lib.hid hp1
                  by_cases he : A j = H j
                  · rw [he] at c2
                    go_wp2_with fail
                    go_roundw
                    case rel => exact ⟨j + 1, by go_num, by omega, by rw [hc1.out, hp1.out, if_pos he, if_pos he, List.append_nil]; exact hP, hAj⟩
                    case measure => simp [intOf]; omega
                  · rw [if_neg he] at hc1 hp1
                    generalize A j = a at *
                    generalize H j = b at *
                    go_wp2_with (at_builtin; refine append_place ?_ (.tmp 163) (.tmp 171) ?_ hP ?_ ?_ ?_ ?_; rfl; rfl; omega; rfl; exact ⟨_, rfl, rfl⟩; intro v3 w3 hP3 hb3)
                    go_roundw
                    case rel => exact ⟨j + 1, by go_num, by omega, by rw [hc1.out, hp1.out]; exact hP3, hAj.boxes hb3⟩
                    case measure => simp [intOf]; omega
                · obtain rfl : j = m := by omega
                  go_wp2_with fail
                  go_ret2
                  exact ⟨A, _, rfl, hEnd.out, hP⟩
            · obtain ⟨i0, hi0⟩ := Int.eq_ofNat_of_zero_le (show 0 ≤ r.1 by omega)
              obtain ⟨hl1, hl2, hl3, hl4, hl5⟩ := hnl i0 hi0
              have hl6 := hg i0 hl1
              obtain rfl := hadL (by omega)
              obtain rfl := hadA (by omega)
              have hAq := hAt.next hwq
              have hSq := hS.next hwq
              have c1 := (hL.next hwr2) i0 hl1
              obtain ⟨c2, c3⟩ := hAq.cell hl1
              rw [hi0]
              have hb4 : Below w.heap.size w (wr.setCell ⟨g, i0, none⟩ (.int .i64 t)) := below_set hwr2 (by omega)
              have hA4 : Nums (wr.setCell ⟨g, i0, none⟩ (.int .i64 t)) g m (Level.move A i0 t) := hAq.set (g := Level.move A i0 t) (by unfold Level.move; rw [if_pos rfl]) (fun j hj => by unfold Level.move; rw [if_neg hj])
              have hS4 : Nums (wr.setCell ⟨g, i0, none⟩ (.int .i64 t)) w.heap.size k (sums L A m) := hSq.keep (block_set_ne (by omega))
              go_upto_region 28 with fail
              generalize wr.setCell ⟨g, i0, none⟩ (.int .i64 t) = W4 at hb4 hA4 hS4 ⊢
              have c1 := (hL.next hb4) i0 hl1
              have hpw := cell_blk (hL i0 hl1)
              have hD : Nums W4.drew w.heap.size k (sums L A m) := hS4.next (Below.refl _ _).drew
              generalize hze : L i0 = z at *
              replace hze := Lib.hid hze
              have hSF := hD.moved hl1 hl2 hl3 hxe.out hye.out hze.out
              have hms : Hid ((sqN (cellI ((W4.drew.setCell ⟨w.heap.size, f, none⟩ (.int .i64 (x - z))).setCell ⟨w.heap.size, t, none⟩ (.int .i64 (y + z))) w.heap.size) k).toNat < (sqN (cellI wm w.heap.size) k).toNat) := Lib.hid (by
                have q1 : sqN (cellI ((W4.drew.setCell ⟨w.heap.size, f, none⟩ (.int .i64 (x - z))).setCell ⟨w.heap.size, t, none⟩ (.int .i64 (y + z))) w.heap.size) k = sqN (sums L (Level.move A i0 t) m) k := sq_congr k fun j hj => hSF.read hj
                have q2 : sqN (cellI wm w.heap.size) k = sqN (sums L A m) k := sq_congr k fun j hj => hS.read hj
                rw [q1, q2]
                have := sq_nonneg (sums L (Level.move A i0 t) m) k
                omega)
              have hbF : Below w.heap.size w ((W4.drew.setCell ⟨w.heap.size, f, none⟩ (.int .i64 (x - z))).setCell ⟨w.heap.size, t, none⟩ (.int .i64 (y + z))) := below_set (below_set hb4.drew (Nat.le_refl _)) (Nat.le_refl _)
              have hAF : Nums ((W4.drew.setCell ⟨w.heap.size, f, none⟩ (.int .i64 (x - z))).setCell ⟨w.heap.size, t, none⟩ (.int .i64 (y + z))) g m (Level.move A i0 t) := hA4.keep ((block_set_ne (by omega)).trans (block_set_ne (by omega)))
              have hAkF : ∀ j, j < m → 0 ≤ Level.move A i0 t j ∧ Level.move A i0 t j < k := fun j hj => by
                unfold Level.move
                split
                · omega
                · exact hAk j hj
              have hEF : Hid (∀ B, Level.Ends L m k (Level.move A i0 t) B → Level.Ends L m k H B) := Lib.hid fun B hB => hE.out B (hsp hi0 (by rw [hte.out]; exact hB))
              obtain ⟨s1, s2⟩ := hD.cell hf
              obtain ⟨s3, s4⟩ := hD.cell ht
              rw [hxe.out] at s1
              rw [hye.out] at s3
              have c1 : W4.drew.cell? ⟨pL, oL + i0, none⟩ = _ := c1
              have c5 : (W4.drew.setCell ⟨w.heap.size, f, none⟩ (.int .i64 (x - z))).cell? ⟨pL, oL + i0, none⟩ = _ := cell_set_ne (by omega) c1
              have c6 : ((W4.drew.setCell ⟨w.heap.size, f, none⟩ (.int .i64 (x - z))).setCell ⟨w.heap.size, t, none⟩ (.int .i64 (y + z))).cell? ⟨pL, oL + i0, none⟩ = _ := cell_set_ne (by omega) c5
              have s5 : (W4.drew.setCell ⟨w.heap.size, f, none⟩ (.int .i64 (x - z))).cell? ⟨w.heap.size, t, none⟩ = _ := (World.cell?_setCell_other _ _ _ _ (by simp only [ne_eq, Addr.mk.injEq, true_and, and_true]; omega)).trans s3
              have s6 : (W4.drew.setCell ⟨w.heap.size, f, none⟩ (.int .i64 (x - z))).frozen? ⟨w.heap.size, t, none⟩ = false := (World.frozen?_setCell _ _ _ _).trans s4
              clear hD hS hS4 hb4 hA4 hE hAk hsp hnl hl5 hAq hSq hwr2 hwq hAt
              refine wp_region_held_drew (S := fun w' => w'.cell? ⟨pL, oL + i0, none⟩ = some (.int .i64 z)) (by kernel_rfl) c1 (fun hHeld => ?_)
              generalize W4.drew = W5 at *
              refine wpAnyH_take (i := 0) (oi := ?rt1o) (v := .slice (some ⟨w.heap.size, 0, none⟩) k k) ?rt1h (by kernel_rfl) (by kernel_rfl) (by kernel_rfl) ?rt1q (Or.inl ⟨?rt1w, ?rt1y⟩) (by assumption) ?rt1r
              case rt1h => rw [List.getElem?_toArray]; rfl
              case rt1q => exact fun _ _ _ h => h
              case rt1w => rfl
              case rt1y =>
                intro w hSw
                go_simp
              simp only [Act.put, List.setIfInBounds_toArray, List.set_cons_zero, List.set_cons_succ]
              refine wpAnyH_take (i := 1) (oi := ?rt2o) (v := .int .i64 f) ?rt2h (by kernel_rfl) (by kernel_rfl) (by kernel_rfl) ?rt2q (Or.inl ⟨?rt2w, ?rt2y⟩) (by assumption) ?rt2r
              case rt2h => rw [List.getElem?_toArray]; rfl
              case rt2q => exact fun _ _ _ h => h
              case rt2w => rfl
              case rt2y =>
                intro w hSw
                go_simp
              simp only [Act.put, List.setIfInBounds_toArray, List.set_cons_zero, List.set_cons_succ]
              refine wpAnyH_take (i := 2) (oi := ?rt3o) (v := .slice (some ⟨w.heap.size, 0, none⟩) k k) ?rt3h (by kernel_rfl) (by kernel_rfl) (by kernel_rfl) ?rt3q (Or.inl ⟨?rt3w, ?rt3y⟩) (by assumption) ?rt3r
              case rt3h => rw [List.getElem?_toArray]; rfl
              case rt3q => exact fun _ _ _ h => h
              case rt3w => rfl
              case rt3y =>
                intro w hSw
                go_simp
              simp only [Act.put, List.setIfInBounds_toArray, List.set_cons_zero, List.set_cons_succ]
              refine wpAnyH_take (i := 3) (oi := ?rt4o) (v := .int .i64 t) ?rt4h (by kernel_rfl) (by kernel_rfl) (by kernel_rfl) ?rt4q (Or.inl ⟨?rt4w, ?rt4y⟩) (by assumption) ?rt4r
              case rt4h => rw [List.getElem?_toArray]; rfl
              case rt4q => exact fun _ _ _ h => h
              case rt4w => rfl
              case rt4y =>
                intro w hSw
                go_simp
              simp only [Act.put, List.setIfInBounds_toArray, List.set_cons_zero, List.set_cons_succ]
              refine wpAnyH_take (i := 4) (oi := ?rt5o) (v := .slice (some ⟨w.heap.size, 0, none⟩) k k) ?rt5h (by kernel_rfl) (by kernel_rfl) (by kernel_rfl) ?rt5q (Or.inl ⟨?rt5w, ?rt5y⟩) (by assumption) ?rt5r
              case rt5h => rw [List.getElem?_toArray]; rfl
              case rt5q => exact fun _ _ _ h => h
              case rt5w => rfl
              case rt5y =>
                intro w hSw
                go_simp
              simp only [Act.put, List.setIfInBounds_toArray, List.set_cons_zero, List.set_cons_succ]
              refine wpAnyH_take (i := 5) (oi := ?rt6o) (v := .int .i64 f) ?rt6h (by kernel_rfl) (by kernel_rfl) (by kernel_rfl) ?rt6q (Or.inl ⟨?rt6w, ?rt6y⟩) (by assumption) ?rt6r
              case rt6h => rw [List.getElem?_toArray]; rfl
              case rt6q => exact fun _ _ _ h => h
              case rt6w => rfl
              case rt6y =>
                intro w hSw
                go_simp
              simp only [Act.put, List.setIfInBounds_toArray, List.set_cons_zero, List.set_cons_succ]
              refine wpAnyH_take (i := 6) (oi := ?rt7o) (v := .pointer (some ⟨w.heap.size, f, none⟩)) ?rt7h (by kernel_rfl) (by kernel_rfl) (by kernel_rfl) ?rt7q (Or.inl ⟨?rt7w, ?rt7y⟩) (by assumption) ?rt7r
              case rt7h => rw [List.getElem?_toArray]; rfl
              case rt7q => exact fun _ _ _ h => h
              case rt7w => rfl
              case rt7y =>
                intro w hSw
                go_simp
              simp only [Act.put, List.setIfInBounds_toArray, List.set_cons_zero, List.set_cons_succ]
              refine wpAnyH_take (i := 8) (oi := ?rt8o) (v := .slice (some ⟨pL, oL, none⟩) m cL) ?rt8h (by kernel_rfl) (by kernel_rfl) (by kernel_rfl) ?rt8q (Or.inl ⟨?rt8w, ?rt8y⟩) (by assumption) ?rt8r
              case rt8h => rw [List.getElem?_toArray]; rfl
              case rt8q => exact fun _ _ _ h => h
              case rt8w => rfl
              case rt8y =>
                intro w hSw
                go_simp
              simp only [Act.put, List.setIfInBounds_toArray, List.set_cons_zero, List.set_cons_succ]
              refine wpAnyH_take (i := 9) (oi := ?rt9o) (v := .int .i64 i0) ?rt9h (by kernel_rfl) (by kernel_rfl) (by kernel_rfl) ?rt9q (Or.inl ⟨?rt9w, ?rt9y⟩) (by assumption) ?rt9r
              case rt9h => rw [List.getElem?_toArray]; rfl
              case rt9q => exact fun _ _ _ h => h
              case rt9w => rfl
              case rt9y =>
                intro w hSw
                go_simp
              simp only [Act.put, List.setIfInBounds_toArray, List.set_cons_zero, List.set_cons_succ]
              refine wpAnyH_take (i := 10) (oi := ?rt10o) (v := .pointer (some ⟨pL, oL + i0, none⟩)) ?rt10h (by kernel_rfl) (by kernel_rfl) (by kernel_rfl) ?rt10q (Or.inl ⟨?rt10w, ?rt10y⟩) (by assumption) ?rt10r
              case rt10h => rw [List.getElem?_toArray]; rfl
              case rt10q => exact fun _ _ _ h => h
              case rt10w => rfl
              case rt10y =>
                intro w hSw
                go_simp
              simp only [Act.put, List.setIfInBounds_toArray, List.set_cons_zero, List.set_cons_succ]
              refine wpAnyH_take (i := 11) (oi := ?rt11o) (v := .int .i64 z) ?rt11h (by kernel_rfl) (by kernel_rfl) (by kernel_rfl) ?rt11q (Or.inl ⟨?rt11w, ?rt11y⟩) (by assumption) ?rt11r
              case rt11h => rw [List.getElem?_toArray]; rfl
              case rt11q => exact fun _ _ _ h => h
              case rt11w => rfl
              case rt11y =>
                intro w hSw
                go_simp
              simp only [Act.put, List.setIfInBounds_toArray, List.set_cons_zero, List.set_cons_succ]
              refine wpAnyH_take (i := 13) (oi := ?rt12o) (v := .slice (some ⟨w.heap.size, 0, none⟩) k k) ?rt12h (by kernel_rfl) (by kernel_rfl) (by kernel_rfl) ?rt12q (Or.inl ⟨?rt12w, ?rt12y⟩) (by assumption) ?rt12r
              case rt12h => rw [List.getElem?_toArray]; rfl
              case rt12q => exact fun _ _ _ h => h
              case rt12w => rfl
              case rt12y =>
                intro w hSw
                go_simp
              simp only [Act.put, List.setIfInBounds_toArray, List.set_cons_zero, List.set_cons_succ]
              refine wpAnyH_take (i := 14) (oi := ?rt13o) (v := .int .i64 t) ?rt13h (by kernel_rfl) (by kernel_rfl) (by kernel_rfl) ?rt13q (Or.inl ⟨?rt13w, ?rt13y⟩) (by assumption) ?rt13r
              case rt13h => rw [List.getElem?_toArray]; rfl
              case rt13q => exact fun _ _ _ h => h
              case rt13w => rfl
              case rt13y =>
                intro w hSw
                go_simp
              simp only [Act.put, List.setIfInBounds_toArray, List.set_cons_zero, List.set_cons_succ]
              refine wpAnyH_take (i := 15) (oi := ?rt14o) (v := .pointer (some ⟨w.heap.size, t, none⟩)) ?rt14h (by kernel_rfl) (by kernel_rfl) (by kernel_rfl) ?rt14q (Or.inl ⟨?rt14w, ?rt14y⟩) (by assumption) ?rt14r
              case rt14h => rw [List.getElem?_toArray]; rfl
              case rt14q => exact fun _ _ _ h => h
              case rt14w => rfl
              case rt14y =>
                intro w hSw
                go_simp
              simp only [Act.put, List.setIfInBounds_toArray, List.set_cons_zero, List.set_cons_succ]
              refine wpAnyH_take (i := 17) (oi := ?rt15o) (v := .slice (some ⟨pL, oL, none⟩) m cL) ?rt15h (by kernel_rfl) (by kernel_rfl) (by kernel_rfl) ?rt15q (Or.inl ⟨?rt15w, ?rt15y⟩) (by assumption) ?rt15r
              case rt15h => rw [List.getElem?_toArray]; rfl
              case rt15q => exact fun _ _ _ h => h
              case rt15w => rfl
              case rt15y =>
                intro w hSw
                go_simp
              simp only [Act.put, List.setIfInBounds_toArray, List.set_cons_zero, List.set_cons_succ]
              refine wpAnyH_take (i := 18) (oi := ?rt16o) (v := .int .i64 i0) ?rt16h (by kernel_rfl) (by kernel_rfl) (by kernel_rfl) ?rt16q (Or.inl ⟨?rt16w, ?rt16y⟩) (by assumption) ?rt16r
              case rt16h => rw [List.getElem?_toArray]; rfl
              case rt16q => exact fun _ _ _ h => h
              case rt16w => rfl
              case rt16y =>
                intro w hSw
                go_simp
              simp only [Act.put, List.setIfInBounds_toArray, List.set_cons_zero, List.set_cons_succ]
              refine wpAnyH_take (i := 19) (oi := ?rt17o) (v := .pointer (some ⟨pL, oL + i0, none⟩)) ?rt17h (by kernel_rfl) (by kernel_rfl) (by kernel_rfl) ?rt17q (Or.inl ⟨?rt17w, ?rt17y⟩) (by assumption) ?rt17r
              case rt17h => rw [List.getElem?_toArray]; rfl
              case rt17q => exact fun _ _ _ h => h
              case rt17w => rfl
              case rt17y =>
                intro w hSw
                go_simp
              simp only [Act.put, List.setIfInBounds_toArray, List.set_cons_zero, List.set_cons_succ]
              refine wpAnyH_take (i := 20) (oi := ?rt18o) (v := .int .i64 z) ?rt18h (by kernel_rfl) (by kernel_rfl) (by kernel_rfl) ?rt18q (Or.inl ⟨?rt18w, ?rt18y⟩) (by assumption) ?rt18r
              case rt18h => rw [List.getElem?_toArray]; rfl
              case rt18q => exact fun _ _ _ h => h
              case rt18w => rfl
              case rt18y =>
                intro w hSw
                go_simp
              simp only [Act.put, List.setIfInBounds_toArray, List.set_cons_zero, List.set_cons_succ]
              refine wpAnyH_ready (rs := [7, 16]) (by kernel_rfl) (by simp) ?_
              refine AllReadyH.cons (o := ?rb19o) ?rb19h (fun K hK => ?rb19s) (AllReadyH.cons (o := ?rb20o) ?rb20h (fun K hK => ?rb20s) AllReadyH.nil)
              case rb19h => rw [List.getElem?_toArray]; rfl
              case rb20h => rw [List.getElem?_toArray]; rfl
              case rb19s =>
                go_simp
                refine hK.out _ _ (c1) (fun hHeld => ?_)
                clear hK K
                try simp only [Act.put, List.setIfInBounds_toArray, List.set_cons_zero, List.set_cons_succ]
                refine wpAnyH_take (i := 12) (oi := ?rt21o) (v := .int .i64 (x - z)) ?rt21h (by kernel_rfl) (by kernel_rfl) (by kernel_rfl) ?rt21q (Or.inl ⟨?rt21w, ?rt21y⟩) (by assumption) ?rt21r
                case rt21h => rw [List.getElem?_toArray]; rfl
                case rt21q => exact fun _ _ _ h => h
                case rt21w => rfl
                case rt21y =>
                  intro w hSw
                  go_simp
                  rw [IntKind.wrap_i64]; omega
                simp only [Act.put, List.setIfInBounds_toArray, List.set_cons_zero, List.set_cons_succ]
                refine wpAnyH_ready (rs := [16]) (by kernel_rfl) (by simp) ?_
                refine AllReadyH.cons (o := ?rb22o) ?rb22h (fun K hK => ?rb22s) AllReadyH.nil
                case rb22h => rw [List.getElem?_toArray]; rfl
                go_simp
                refine hK.out _ _ (c1) (fun hHeld => ?_)
                clear hK K
                try simp only [Act.put, List.setIfInBounds_toArray, List.set_cons_zero, List.set_cons_succ]
                refine wpAnyH_take (i := 21) (oi := ?rt23o) (v := .int .i64 (y + z)) ?rt23h (by kernel_rfl) (by kernel_rfl) (by kernel_rfl) ?rt23q (Or.inl ⟨?rt23w, ?rt23y⟩) (by assumption) ?rt23r
                case rt23h => rw [List.getElem?_toArray]; rfl
                case rt23q => exact fun _ _ _ h => h
                case rt23w => rfl
                case rt23y =>
                  intro w hSw
                  go_simp
                  rw [IntKind.wrap_i64]; omega
                simp only [Act.put, List.setIfInBounds_toArray, List.set_cons_zero, List.set_cons_succ]
                refine wpAnyH_take (i := 22) (oi := ?rt24o) (v := .pointer (some ⟨w.heap.size, f, none⟩)) ?rt24h (by kernel_rfl) (by kernel_rfl) (by kernel_rfl) ?rt24q (Or.inl ⟨?rt24w, ?rt24y⟩) (by assumption) ?rt24r
                case rt24h => rw [List.getElem?_toArray]; rfl
                case rt24q => exact fun _ _ _ h => h
                case rt24w => rfl
                case rt24y =>
                  intro w hSw
                  go_simp
                simp only [Act.put, List.setIfInBounds_toArray, List.set_cons_zero, List.set_cons_succ]
                refine wpAnyH_ready (rs := [23]) (by kernel_rfl) (by simp) ?_
                refine AllReadyH.cons (o := ?rb25o) ?rb25h (fun K hK => ?rb25s) AllReadyH.nil
                case rb25h => rw [List.getElem?_toArray]; rfl
                go_simp
                refine hK.out _ _ (c5) (fun hHeld => ?_)
                clear hK K
                try simp only [Act.put, List.setIfInBounds_toArray, List.set_cons_zero, List.set_cons_succ]
                refine wpAnyH_take (i := 24) (oi := ?rt26o) (v := .pointer (some ⟨w.heap.size, t, none⟩)) ?rt26h (by kernel_rfl) (by kernel_rfl) (by kernel_rfl) ?rt26q (Or.inl ⟨?rt26w, ?rt26y⟩) (by assumption) ?rt26r
                case rt26h => rw [List.getElem?_toArray]; rfl
                case rt26q => exact fun _ _ _ h => h
                case rt26w => rfl
                case rt26y =>
                  intro w hSw
                  go_simp
                simp only [Act.put, List.setIfInBounds_toArray, List.set_cons_zero, List.set_cons_succ]
                refine wpAnyH_ready (rs := [25]) (by kernel_rfl) (by simp) ?_
                refine AllReadyH.cons (o := ?rb27o) ?rb27h (fun K hK => ?rb27s) AllReadyH.nil
                case rb27h => rw [List.getElem?_toArray]; rfl
                go_simp
                refine hK.out _ _ (c6) (fun hHeld => ?_)
                clear hK K
                try simp only [Act.put, List.setIfInBounds_toArray, List.set_cons_zero, List.set_cons_succ]
                refine wpAnyH_done (by kernel_rfl) ?_ _
                go_wp2_with fail
                go_roundw
                case rel => exact ⟨Level.move A i0 t, hbF, hSF, hAF, hAkF, hEF⟩
                case measure => exact hms.out
              case rb20s =>
                go_simp
                refine hK.out _ _ (c1) (fun hHeld => ?_)
                clear hK K
                try simp only [Act.put, List.setIfInBounds_toArray, List.set_cons_zero, List.set_cons_succ]
                refine wpAnyH_take (i := 21) (oi := ?rt28o) (v := .int .i64 (y + z)) ?rt28h (by kernel_rfl) (by kernel_rfl) (by kernel_rfl) ?rt28q (Or.inl ⟨?rt28w, ?rt28y⟩) (by assumption) ?rt28r
                case rt28h => rw [List.getElem?_toArray]; rfl
                case rt28q => exact fun _ _ _ h => h
                case rt28w => rfl
                case rt28y =>
                  intro w hSw
                  go_simp
                  rw [IntKind.wrap_i64]; omega
                simp only [Act.put, List.setIfInBounds_toArray, List.set_cons_zero, List.set_cons_succ]
                refine wpAnyH_ready (rs := [7]) (by kernel_rfl) (by simp) ?_
                refine AllReadyH.cons (o := ?rb29o) ?rb29h (fun K hK => ?rb29s) AllReadyH.nil
                case rb29h => rw [List.getElem?_toArray]; rfl
                go_simp
                refine hK.out _ _ (c1) (fun hHeld => ?_)
                clear hK K
                try simp only [Act.put, List.setIfInBounds_toArray, List.set_cons_zero, List.set_cons_succ]
                refine wpAnyH_take (i := 12) (oi := ?rt30o) (v := .int .i64 (x - z)) ?rt30h (by kernel_rfl) (by kernel_rfl) (by kernel_rfl) ?rt30q (Or.inl ⟨?rt30w, ?rt30y⟩) (by assumption) ?rt30r
                case rt30h => rw [List.getElem?_toArray]; rfl
                case rt30q => exact fun _ _ _ h => h
                case rt30w => rfl
                case rt30y =>
                  intro w hSw
                  go_simp
                  rw [IntKind.wrap_i64]; omega
                simp only [Act.put, List.setIfInBounds_toArray, List.set_cons_zero, List.set_cons_succ]
                refine wpAnyH_take (i := 22) (oi := ?rt31o) (v := .pointer (some ⟨w.heap.size, f, none⟩)) ?rt31h (by kernel_rfl) (by kernel_rfl) (by kernel_rfl) ?rt31q (Or.inl ⟨?rt31w, ?rt31y⟩) (by assumption) ?rt31r
                case rt31h => rw [List.getElem?_toArray]; rfl
                case rt31q => exact fun _ _ _ h => h
                case rt31w => rfl
                case rt31y =>
                  intro w hSw
                  go_simp
                simp only [Act.put, List.setIfInBounds_toArray, List.set_cons_zero, List.set_cons_succ]
                refine wpAnyH_ready (rs := [23]) (by kernel_rfl) (by simp) ?_
                refine AllReadyH.cons (o := ?rb32o) ?rb32h (fun K hK => ?rb32s) AllReadyH.nil
                case rb32h => rw [List.getElem?_toArray]; rfl
                go_simp
                refine hK.out _ _ (c5) (fun hHeld => ?_)
                clear hK K
                try simp only [Act.put, List.setIfInBounds_toArray, List.set_cons_zero, List.set_cons_succ]
                refine wpAnyH_take (i := 24) (oi := ?rt33o) (v := .pointer (some ⟨w.heap.size, t, none⟩)) ?rt33h (by kernel_rfl) (by kernel_rfl) (by kernel_rfl) ?rt33q (Or.inl ⟨?rt33w, ?rt33y⟩) (by assumption) ?rt33r
                case rt33h => rw [List.getElem?_toArray]; rfl
                case rt33q => exact fun _ _ _ h => h
                case rt33w => rfl
                case rt33y =>
                  intro w hSw
                  go_simp
                simp only [Act.put, List.setIfInBounds_toArray, List.set_cons_zero, List.set_cons_succ]
                refine wpAnyH_ready (rs := [25]) (by kernel_rfl) (by simp) ?_
                refine AllReadyH.cons (o := ?rb34o) ?rb34h (fun K hK => ?rb34s) AllReadyH.nil
                case rb34h => rw [List.getElem?_toArray]; rfl
                go_simp
                refine hK.out _ _ (c6) (fun hHeld => ?_)
                clear hK K
                try simp only [Act.put, List.setIfInBounds_toArray, List.set_cons_zero, List.set_cons_succ]
                refine wpAnyH_done (by kernel_rfl) ?_ _
                go_wp2_with fail
                go_roundw
                case rel => exact ⟨Level.move A i0 t, hbF, hSF, hAF, hAkF, hEF⟩
                case measure => exact hms.out
end Go.Proofs
