/- Of package dumbref2: BalanceOf. No condition. -/
import Derived.Test.YtpmjkpdkkckoaaaGreatDoorBal
namespace Go.Proofs
open Go.RowKit Go.Level

set_option maxRecDepth 20000 in
set_option maxHeartbeats 800000 in
theorem Tryz.balanceOf {w : World} {pL oL pH oH n k : Nat} {adL adH : Option Addr} (cL cH : Nat) {L H : Nat → Int} (hadL : 0 < n → adL = some ⟨pL, oL, none⟩) (hadH : 0 < n → adH = some ⟨pH, oH, none⟩) (hL : Given w pL oL n L) (hH : Given w pH oH n H) (hn : n ≤ 200) (hk : 0 < k) (hk8 : k ≤ 8) (hg : Good L H n k) :
    Calls Tryz.prog 10 #[.slice adL n cL, .slice adH n cH, .int .i64 k] w fun e w' => ∃ A v, e = .returned (.tuple #[v, .int .i64 0]) ∧ Level.Ends L n k H A ∧ Plc w.heap.size v (cntN H A n) (placesV H A n) w w' := by
  have hcl := Tryz.clone cH hadH hH (by omega)
  go_enter Tryz.func10, Tryz.ntmps10
  go_wp2_with fail
  refine Calls.mono hcl ?_
  rintro e w2 ⟨adA, cA, g, rfl, hg1, hadA, hA, hb2⟩
  clear hcl
  go_wp2_with fail
  go_loopw [46] (fun v wr => ∃ i : Nat, v = .int .i64 i ∧ i ≤ n ∧ w2 = wr) (fun v _ => n - (intOf v).toNat)
  case atStart => exact ⟨0, rfl, Nat.zero_le _, rfl⟩
  case round =>
    obtain ⟨i, rfl, hi, rfl⟩ := hrel
    by_cases hin : i < n
    · obtain rfl := hadL (by omega)
      obtain rfl := hadH (by omega)
      have c1 := (hL.next hb2) i hin
      have c2 := (hH.next hb2) i hin
      obtain ⟨⟨hg1, hg2⟩, hg3, hg4⟩ := hg i hin
      generalize L i = y at *
      generalize H i = h at *
      go_wp2_with fail
      go_roundw
      case rel => exact ⟨i + 1, by go_num, by omega, True.intro⟩
      case measure => simp [intOf]; omega
    · have hin' : i = n := by omega
      subst hin'
      go_wp2_with fail
      go_loopw [] (fun wr => ∃ A : Nat → Int, Below w.heap.size w wr ∧ Nums wr g i A ∧ (∀ j, j < i → 0 ≤ A j ∧ A j < k) ∧ Hid (∀ B, Level.Ends L i k A B → Level.Ends L i k H B)) (fun wr => (sqN (sums L (cellI wr g) i) k).toNat)
      case atStart => exact ⟨H, hb2, hA, fun j hj => (hg j hj).2, Lib.hid fun _ h => h⟩
      case round =>
        obtain ⟨A, hwr, hAt, hAk, hE⟩ := hrel
        obtain ⟨wm, rfl⟩ : ∃ wm : World, wm = wr := ⟨_, rfl⟩
        clear hA hb2
        obtain ⟨cs, hcs, hz, hmk⟩ := make_nums (k := k) (by omega)
        go_wp2_with fail
        have hS0 : Nums (wm.alloc (.cells cs 3)) wm.heap.size k (sums L A 0) := fun _ => ⟨cs, heap_alloc_new' _ _, by omega, fun j hj => (hz j hj)⟩
        have hw0 : Below wm.heap.size wm (wm.alloc (.cells cs 3)) := (Below.refl _ _).alloc (Nat.le_refl _) _
        have hsz := ex_alloc_size wm (.cells cs 3)
        generalize wm.alloc (.cells cs 3) = W1 at hS0 hw0 hsz ⊢
        clear hmk hz hcs
        go_loopw [77] (fun v wq => ∃ m : Nat, v = .int .i64 m ∧ m ≤ i ∧ Below wm.heap.size wm wq ∧ wm.heap.size < wq.heap.size ∧ Nums wq wm.heap.size k (sums L A m)) (fun v _ => i - (intOf v).toNat)
        case atStart => exact ⟨0, rfl, Nat.zero_le _, hw0, by omega, hS0⟩
        case round =>
          obtain ⟨m, rfl, hm, hwq, hsq, hS⟩ := hrel
          clear hS0 hw0
          have hwr2 := below_next hwr hwq
          by_cases hmi : m < i
          · obtain rfl := hadL (by omega)
            obtain rfl := hadA (by omega)
            have c1 := (hL.next hwr2) m hmi
            have c2 := ((hAt.next hwq).cell hmi).1
            have ha := hAk m hmi
            have hb := sum_bounds (L := L) A (A m) (M := 4999999999999) (n := m) fun j hj => (hg j (by omega)).1
            obtain ⟨h, hh⟩ := Int.eq_ofNat_of_zero_le ha.1
            have hhk : h < k := by omega
            obtain ⟨c3, c4⟩ := hS.cell hhk
            have hset := fun v hv => hS.set (g := sums L A (m + 1)) (i := h) (v := v) hv fun j hj => by unfold sums; rw [sumN, if_neg (by omega)]; omega
            have hnx : sums L A (m + 1) h = sums L A m h + L m := by unfold sums; rw [sumN, hh, if_pos rfl]
            rw [hh] at c2 hb
            have hb' : 0 ≤ sums L A m h ∧ sums L A m h ≤ 4999999999999 * m := hb
            obtain ⟨⟨hg1, hg2⟩, -⟩ := hg m hmi
            generalize sums L A m h = x at *
            generalize L m = y at *
            go_wp2_with fail
            go_roundw
            case rel => exact ⟨m + 1, by go_num, by omega, below_set hwq (Nat.le_refl _), by rw [size_set]; exact hsq, hset _ hnx.symm⟩
            case measure => simp [intOf]; omega
          · obtain rfl : m = i := by omega
            obtain ⟨ws, rfl⟩ : ∃ ws : World, ws = wr := ⟨_, rfl⟩
            go_wp2_with fail
            go_loopw [14, 15, 95] (fun hv lv v wz => ∃ j : Nat, v = .int .i64 j ∧ j ≤ k ∧ ws = wz ∧ hv = .int .i64 (hiN (sums L A m) j) ∧ lv = .int .i64 (loN (sums L A m) j)) (fun _ _ v _ => k - (intOf v).toNat)
            case atStart => exact ⟨0, rfl, Nat.zero_le _, rfl, rfl, rfl⟩
            case round =>
              obtain ⟨j, rfl, hj, rfl, rfl, rfl⟩ := hrel
              by_cases hjk : j < k
              · have hf := hi_le (sums L A m) hk hj
                have ht := lo_le (sums L A m) hk hj
                have c1 := (hS.cell hjk).1
                have c2 := (hS.cell hf).1
                have c3 := (hS.cell ht).1
                have e1 : hiN (sums L A m) (j + 1) = if sums L A m (hiN (sums L A m) j) < sums L A m j then j else hiN (sums L A m) j := rfl
                have e2 : loN (sums L A m) (j + 1) = if sums L A m j < sums L A m (loN (sums L A m) j) then j else loN (sums L A m) j := rfl
                replace e1 := Lib.hid e1
                replace e2 := Lib.hid e2
                generalize hiN (sums L A m) j = f at *
                generalize loN (sums L A m) j = t at *
                generalize sums L A m j = x at *
                generalize sums L A m f = y at *
                generalize sums L A m t = z at *
                by_cases h1 : y < x
                · rw [if_pos h1] at e1
                  by_cases h2 : x < z
                  · rw [if_pos h2] at e2
                    go_wp2_with fail
                    go_roundw
                    case rel => exact ⟨j + 1, by go_num, by omega, True.intro, by rw [e1.out], by rw [e2.out]⟩
                    case measure => simp [intOf]; omega
                  · rw [if_neg h2] at e2
                    go_wp2_with fail
                    go_roundw
                    case rel => exact ⟨j + 1, by go_num, by omega, True.intro, by rw [e1.out], by rw [e2.out]⟩
                    case measure => simp [intOf]; omega
                · rw [if_neg h1] at e1
                  by_cases h2 : x < z
                  · rw [if_pos h2] at e2
                    go_wp2_with fail
                    go_roundw
                    case rel => exact ⟨j + 1, by go_num, by omega, True.intro, by rw [e1.out], by rw [e2.out]⟩
                    case measure => simp [intOf]; omega
                  · rw [if_neg h2] at e2
                    go_wp2_with fail
                    go_roundw
                    case rel => exact ⟨j + 1, by go_num, by omega, True.intro, by rw [e1.out], by rw [e2.out]⟩
                    case measure => simp [intOf]; omega
              · obtain rfl : k = j := by omega
                have hf := hi_lt (sums L A m) k hk
                have ht := lo_lt (sums L A m) k hk
                have hnM : nextM L A m k = bestN L A (hiN (sums L A m) k) (loN (sums L A m) k) (sums L A m (hiN (sums L A m) k)) (sums L A m (loN (sums L A m) k)) m := rfl
                have hnl := fun j h => @next_less L A m k j hk h
                have cf := (hS.cell hf).1
                have ct := (hS.cell ht).1
                have bf := sum_bounds (L := L) A (hiN (sums L A m) k) (M := 4999999999999) (n := m) fun j hj => (hg j hj).1
                have bt := sum_bounds (L := L) A (loN (sums L A m) k) (M := 4999999999999) (n := m) fun j hj => (hg j hj).1
                have hxe : sumN L A (hiN (sums L A m) k) m = sums L A m (hiN (sums L A m) k) := rfl
                have hye : sumN L A (loN (sums L A m) k) m = sums L A m (loN (sums L A m) k) := rfl
                rw [hxe] at bf
                rw [hye] at bt
                clear hxe hye
                generalize hfe : hiN (sums L A m) k = f at *
                generalize hte : loN (sums L A m) k = t at *
                replace hfe := Lib.hid hfe
                replace hte := Lib.hid hte
                generalize hxe : sums L A m f = x at *
                generalize hye : sums L A m t = y at *
                replace hxe := Lib.hid hxe
                replace hye := Lib.hid hye
                replace hnM := Lib.hid hnM
                replace hnl := Lib.hid hnl
                go_upto_region 29 with fail
                go_quiet (fail)
                have hwd : Below ws.heap.size ws (ws.drewN nq) := belowDrewN (Below.refl _ _)
                generalize ws.drewN nq = W2 at hwd ⊢
                clear cf ct
                go_wp2_with fail
                go_loopw [18, 19, 121] (fun bv lv v wq => ∃ m2 : Nat, v = .int .i64 m2 ∧ m2 ≤ m ∧ Below ws.heap.size ws wq ∧ bv = .int .i64 (bestN L A f t x y m2).1 ∧ lv = .int .i64 (bestN L A f t x y m2).2) (fun _ _ v _ => m - (intOf v).toNat)
                case atStart => exact ⟨0, rfl, Nat.zero_le _, hwd, rfl, rfl⟩
                case round =>
                  obtain ⟨m2, rfl, hm2, hwz, rfl, rfl⟩ := hrel
                  clear hwd
                  have hwr3 := below_next hwr2 hwz
                  have hAs := hAt.next hwq
                  by_cases hmm : m2 < m
                  · obtain rfl := hadL (by omega)
                    obtain rfl := hadA (by omega)
                    have c1 := (hL.next hwr3) m2 hmm
                    have c3 := ((hS.next hwz).cell hf).1
                    have c4 := ((hS.next hwz).cell ht).1
                    rw [hxe.out] at c3
                    rw [hye.out] at c4
                    obtain ⟨hg1, -⟩ := hg m2 hmm
                    have hst : bestN L A f t x y (m2 + 1) = if A m2 = f ∧ (f : Int) ≠ t ∧ max (x - L m2) (y + L m2) < (bestN L A f t x y m2).2 then ((m2 : Int), max (x - L m2) (y + L m2)) else bestN L A f t x y m2 := rfl
                    have hrl := (best_facts L A f t x y m2).1
                    generalize bestN L A f t x y m2 = r at *
                    generalize L m2 = z at *
                    replace hst := Lib.hid hst
                    go_upto_region 33 with fail
                    go_quiet (fail)
                    have hwd := belowDrewN (n := nq) hwz
                    generalize wr.drewN nq = W3 at hwd ⊢
                    have c2 := ((hAs.next hwd).cell hmm).1
                    clear c1 c3 c4 hwz hwr3
                    generalize max (x - z) (y + z) = q at *
                    by_cases h1 : A m2 = f
                    · rw [h1] at c2
                      by_cases h2 : f = t
                      · go_wp2_with fail
                        go_roundw
                        case rel => exact ⟨m2 + 1, by go_num, by omega, hwd, by rw [hst.out, if_neg (by omega)], by rw [hst.out, if_neg (by omega)]⟩
                        case measure => simp [intOf]; omega
                      · by_cases h3 : q < r.2
                        · go_wp2_with fail
                          go_roundw
                          case rel => exact ⟨m2 + 1, by go_num, by omega, hwd, by rw [hst.out, if_pos ⟨h1, by omega, h3⟩], by rw [hst.out, if_pos ⟨h1, by omega, h3⟩]⟩
                          case measure => simp [intOf]; omega
                        · have hq : ¬(A m2 = f ∧ (f : Int) ≠ t ∧ q < r.2) := fun h => h3 h.2.2
                          rw [if_neg hq] at hst
                          clear hq
                          go_wp2_with fail
                          go_roundw
                          case rel => exact ⟨m2 + 1, by go_num, by omega, hwd, by rw [hst.out], by rw [hst.out]⟩
                          case measure => simp [intOf]; omega
                    · have hq : ¬(A m2 = f ∧ (f : Int) ≠ t ∧ q < r.2) := fun h => h1 h.1
                      rw [if_neg hq] at hst
                      clear hq
                      generalize A m2 = a at *
                      go_wp2_with fail
                      go_roundw
                      case rel => exact ⟨m2 + 1, by go_num, by omega, hwd, by rw [hst.out], by rw [hst.out]⟩
                      case measure => simp [intOf]; omega
                  · obtain rfl : m = m2 := by omega
                    rw [← hnM.out] at *
                    have hr := hnl.out
                    have hdn := @Ends.done L m k A
                    have hsp := @Ends.step L m k A
                    generalize nextM L A m k = r at *
                    replace hnl := hr
                    clear hr
                    by_cases h1 : r.1 < 0
                    · have hAq := hAs.next hwz
                      have hP0 : Plc w.heap.size (.slice none 0 0) 0 [] w wr := ⟨World.ownsRow_nil _ _ _ _, hwr3, hwr3.size⟩
                      have hEnd := hE.out A (hdn h1)
                      replace hEnd := Lib.hid hEnd
                      clear hE hdn hsp hnl hAt hS hwq hwz hwr2 hAs
                      go_wp2_with fail
                      obtain ⟨wz, rfl⟩ : ∃ wz : World, wz = wr := ⟨_, rfl⟩
                      go_loopw [23, 166] (fun ov v wq => ∃ j : Nat, v = .int .i64 j ∧ j ≤ m ∧ Plc w.heap.size ov (cntN H A j) (placesV H A j) w wq ∧ Nums wq g m A) (fun _ v _ => m - (intOf v).toNat)
                      case atStart => exact ⟨0, rfl, Nat.zero_le _, hP0, hAq⟩
                      case round =>
                        obtain ⟨j, rfl, hj, hP, hAj⟩ := hrel
                        clear hP0 hAq
                        by_cases hjm : j < m
                        · obtain rfl := hadH (by omega)
                          obtain rfl := hadA (by omega)
                          have c1 := (hH.next hP.2.1) j hjm
                          have c2 := (hAj.cell hjm).1
                          have hcn := cnt_le H A j
                          have hc1 : cntN H A (j + 1) = cntN H A j + if A j = H j then 0 else 1 := rfl
                          have hp1 : placesV H A (j + 1) = placesV H A j ++ if A j = H j then [] else [.int .i64 j, .int .i64 (H j), .int .i64 (A j), .int .i64 0] := rfl
                          replace hc1 := Lib.hid hc1
                          replace hp1 := Lib.hid hp1
                          go_upto_region 43 with fail
                          go_quiet (fail)
                          have hbd : Below wr.heap.size wr (wr.drewN nq) := belowDrewN (Below.refl _ _)
                          have hPd := hP.call hbd
                          have hAd := hAj.next hbd
                          generalize wr.drewN nq = W3 at hPd hAd ⊢
                          clear hP hAj hbd c1 c2
                          by_cases he : A j = H j
                          · go_wp2_with fail
                            go_roundw
                            case rel => exact ⟨j + 1, by go_num, by omega, by rw [hc1.out, hp1.out, if_pos he, if_pos he, List.append_nil]; exact hPd, hAd⟩
                            case measure => simp [intOf]; omega
                          · rw [if_neg he] at hc1 hp1
                            have d1 := (hH.next hPd.2.1) j hjm
                            have d2 := (hAd.cell hjm).1
                            have hpo : some pH ≠ u23.ownBlock := fun e => by
                              have h1 := (own_lt hPd.1 pH e.symm).1
                              have h2 := cell_blk (hH j hjm)
                              omega
                            have hgo : some g ≠ u23.ownBlock := by
                              obtain ⟨cs, h1, _⟩ := hAd (by omega)
                              exact own_ne hPd.1 h1 (by decide)
                            have hPd := hPd.drew
                            have hAd := hAd.next (Below.refl W3.heap.size W3).drew
                            generalize A j = a at *
                            generalize H j = b at *
                            go_upto_region 44 with fail
                            have d1 : W3.drew.cell? ⟨pH, oH + j, none⟩ = _ := d1
                            have d2 : W3.drew.cell? ⟨g, j, none⟩ = _ := d2
                            refine wp_region_held_drew (S := fun w' => w'.cell? ⟨pH, oH + j, none⟩ = some (.int .i64 b) ∧ w'.cell? ⟨g, j, none⟩ = some (.int .i64 a)) (by kernel_rfl) ⟨d1, d2⟩ (fun hHeld => ?_)
                            generalize W3.drew = W4 at *
                            have d3 := cell_alloc (.cells #[.int .i64 j, .int .i64 b, .int .i64 a, .int .i64 0] 37) d1
                            have d4 := cell_alloc (.cells #[.int .i64 j, .int .i64 b, .int .i64 a, .int .i64 0] 37) d2
                            refine wpAnyH_take (i := 0) (oi := ?rt1o) (v := u23) ?rt1h (by kernel_rfl) (by kernel_rfl) (by kernel_rfl) ?rt1q (Or.inl ⟨?rt1w, ?rt1y⟩) (by assumption) ?rt1r
                            case rt1h => rw [List.getElem?_toArray]; rfl
                            case rt1q => exact fun _ _ _ h => h
                            case rt1w => rfl
                            case rt1y =>
                              intro w hSw
                              go_simp
                            simp only [Act.put, List.setIfInBounds_toArray, List.set_cons_zero, List.set_cons_succ]
                            refine wpAnyH_take (i := 1) (oi := ?rt2o) (v := .int .i64 j) ?rt2h (by kernel_rfl) (by kernel_rfl) (by kernel_rfl) ?rt2q (Or.inl ⟨?rt2w, ?rt2y⟩) (by assumption) ?rt2r
                            case rt2h => rw [List.getElem?_toArray]; rfl
                            case rt2q => exact fun _ _ _ h => h
                            case rt2w => rfl
                            case rt2y =>
                              intro w hSw
                              go_simp
                            simp only [Act.put, List.setIfInBounds_toArray, List.set_cons_zero, List.set_cons_succ]
                            refine wpAnyH_take (i := 2) (oi := ?rt3o) (v := .slice (some ⟨pH, oH, none⟩) m cH) ?rt3h (by kernel_rfl) (by kernel_rfl) (by kernel_rfl) ?rt3q (Or.inl ⟨?rt3w, ?rt3y⟩) (by assumption) ?rt3r
                            case rt3h => rw [List.getElem?_toArray]; rfl
                            case rt3q => exact fun _ _ _ h => h
                            case rt3w => rfl
                            case rt3y =>
                              intro w hSw
                              go_simp
                            simp only [Act.put, List.setIfInBounds_toArray, List.set_cons_zero, List.set_cons_succ]
                            refine wpAnyH_take (i := 3) (oi := ?rt4o) (v := .int .i64 j) ?rt4h (by kernel_rfl) (by kernel_rfl) (by kernel_rfl) ?rt4q (Or.inl ⟨?rt4w, ?rt4y⟩) (by assumption) ?rt4r
                            case rt4h => rw [List.getElem?_toArray]; rfl
                            case rt4q => exact fun _ _ _ h => h
                            case rt4w => rfl
                            case rt4y =>
                              intro w hSw
                              go_simp
                            simp only [Act.put, List.setIfInBounds_toArray, List.set_cons_zero, List.set_cons_succ]
                            refine wpAnyH_take (i := 4) (oi := ?rt5o) (v := .pointer (some ⟨pH, oH + j, none⟩)) ?rt5h (by kernel_rfl) (by kernel_rfl) (by kernel_rfl) ?rt5q (Or.inl ⟨?rt5w, ?rt5y⟩) (by assumption) ?rt5r
                            case rt5h => rw [List.getElem?_toArray]; rfl
                            case rt5q => exact fun _ _ _ h => h
                            case rt5w => rfl
                            case rt5y =>
                              intro w hSw
                              go_simp
                            simp only [Act.put, List.setIfInBounds_toArray, List.set_cons_zero, List.set_cons_succ]
                            refine wpAnyH_take (i := 5) (oi := ?rt6o) (v := .int .i64 b) ?rt6h (by kernel_rfl) (by kernel_rfl) (by kernel_rfl) ?rt6q (Or.inl ⟨?rt6w, ?rt6y⟩) (by assumption) ?rt6r
                            case rt6h => rw [List.getElem?_toArray]; rfl
                            case rt6q => exact fun _ _ _ h => h
                            case rt6w => rfl
                            case rt6y =>
                              intro w hSw
                              go_simp
                            simp only [Act.put, List.setIfInBounds_toArray, List.set_cons_zero, List.set_cons_succ]
                            refine wpAnyH_take (i := 6) (oi := ?rt7o) (v := .slice (some ⟨g, 0, none⟩) m cA) ?rt7h (by kernel_rfl) (by kernel_rfl) (by kernel_rfl) ?rt7q (Or.inl ⟨?rt7w, ?rt7y⟩) (by assumption) ?rt7r
                            case rt7h => rw [List.getElem?_toArray]; rfl
                            case rt7q => exact fun _ _ _ h => h
                            case rt7w => rfl
                            case rt7y =>
                              intro w hSw
                              go_simp
                            simp only [Act.put, List.setIfInBounds_toArray, List.set_cons_zero, List.set_cons_succ]
                            refine wpAnyH_take (i := 7) (oi := ?rt8o) (v := .int .i64 j) ?rt8h (by kernel_rfl) (by kernel_rfl) (by kernel_rfl) ?rt8q (Or.inl ⟨?rt8w, ?rt8y⟩) (by assumption) ?rt8r
                            case rt8h => rw [List.getElem?_toArray]; rfl
                            case rt8q => exact fun _ _ _ h => h
                            case rt8w => rfl
                            case rt8y =>
                              intro w hSw
                              go_simp
                            simp only [Act.put, List.setIfInBounds_toArray, List.set_cons_zero, List.set_cons_succ]
                            refine wpAnyH_take (i := 8) (oi := ?rt9o) (v := .pointer (some ⟨g, j, none⟩)) ?rt9h (by kernel_rfl) (by kernel_rfl) (by kernel_rfl) ?rt9q (Or.inl ⟨?rt9w, ?rt9y⟩) (by assumption) ?rt9r
                            case rt9h => rw [List.getElem?_toArray]; rfl
                            case rt9q => exact fun _ _ _ h => h
                            case rt9w => rfl
                            case rt9y =>
                              intro w hSw
                              go_simp
                            simp only [Act.put, List.setIfInBounds_toArray, List.set_cons_zero, List.set_cons_succ]
                            refine wpAnyH_take (i := 9) (oi := ?rt10o) (v := .int .i64 a) ?rt10h (by kernel_rfl) (by kernel_rfl) (by kernel_rfl) ?rt10q (Or.inl ⟨?rt10w, ?rt10y⟩) (by assumption) ?rt10r
                            case rt10h => rw [List.getElem?_toArray]; rfl
                            case rt10q => exact fun _ _ _ h => h
                            case rt10w => rfl
                            case rt10y =>
                              intro w hSw
                              go_simp
                            simp only [Act.put, List.setIfInBounds_toArray, List.set_cons_zero, List.set_cons_succ]
                            refine wpAnyH_take (i := 10) (oi := ?rt11o) (v := .agg #[.int .i64 j, .int .i64 b, .int .i64 a, .int .i64 0]) ?rt11h (by kernel_rfl) (by kernel_rfl) (by kernel_rfl) ?rt11q (Or.inl ⟨?rt11w, ?rt11y⟩) (by assumption) ?rt11r
                            case rt11h => rw [List.getElem?_toArray]; rfl
                            case rt11q => exact fun _ _ _ h => h
                            case rt11w => rfl
                            case rt11y =>
                              intro w hSw
                              go_simp
                            simp only [Act.put, List.setIfInBounds_toArray, List.set_cons_zero, List.set_cons_succ]
                            refine wpAnyH_ready (rs := [11]) (by kernel_rfl) (by simp) ?_
                            refine AllReadyH.cons (o := ?rb12o) ?rb12h (fun K hK => ?rb12s) AllReadyH.nil
                            case rb12h => rw [List.getElem?_toArray]; rfl
                            go_simp
                            refine hK.out _ _ (⟨d3, d4⟩) (fun hHeld => ?_)
                            clear hK K
                            try simp only [Act.put, List.setIfInBounds_toArray, List.set_cons_zero, List.set_cons_succ]
                            refine wpAnyH_ready (rs := [12]) (by kernel_rfl) (by simp) ?_
                            refine AllReadyH.cons (o := ?rb13o) ?rb13h (fun K hK => ?rb13s) AllReadyH.nil
                            case rb13h => rw [List.getElem?_toArray]; rfl
                            refine Eq.mpr (if_pos ?x0) ?_
                            case x0 => rfl
                            refine append_placeO (.tmp 178) (.tmp 189) ?x1 hPd ?x2 ?x3 ?x4 ?x5
                            case x1 => rfl
                            case x2 => omega
                            case x3 => rfl
                            case x4 => exact ⟨_, rfl, rfl⟩
                            intro v3 w3 hP3 hb3 hk3
                            have d5 : w3.cell? ⟨pH, oH + j, none⟩ = _ := cell_keep hk3 hpo d1
                            have d6 : w3.cell? ⟨g, j, none⟩ = _ := cell_keep hk3 hgo d2
                            refine hK.out _ _ ⟨d5, d6⟩ (fun hHeld => ?_)
                            clear hK K
                            try simp only [Act.put, List.setIfInBounds_toArray, List.set_cons_zero, List.set_cons_succ]
                            refine wpAnyH_take (i := 13) (oi := ?rt14o) (v := v3) ?rt14h (by kernel_rfl) (by kernel_rfl) (by kernel_rfl) ?rt14q (Or.inl ⟨?rt14w, ?rt14y⟩) (by assumption) ?rt14r
                            case rt14h => rw [List.getElem?_toArray]; rfl
                            case rt14q => exact fun _ _ _ h => h
                            case rt14w => rfl
                            case rt14y =>
                              intro w hSw
                              go_simp
                            simp only [Act.put, List.setIfInBounds_toArray, List.set_cons_zero, List.set_cons_succ]
                            refine wpAnyH_done (by kernel_rfl) ?_ _
                            go_wp2_with fail
                            go_roundw
                            case rel => exact ⟨j + 1, by go_num, by omega, by rw [hc1.out, hp1.out]; exact hP3, hAd.boxes hb3⟩
                            case measure => simp [intOf]; omega
                        · obtain rfl : m = j := by omega
                          go_wp2_with fail
                          go_ret2
                          exact ⟨A, _, rfl, hEnd.out, hP⟩
                    · obtain ⟨i0, hi0⟩ := Int.eq_ofNat_of_zero_le (show 0 ≤ r.1 by omega)
                      obtain ⟨hl1, hl2, hl3, hl4, hl5⟩ := hnl i0 hi0
                      obtain rfl := hadL (by omega)
                      obtain rfl := hadA (by omega)
                      have hAq := hAs.next hwz
                      obtain ⟨c2, c3⟩ := hAq.cell hl1
                      rw [hi0]
                      have hA4 : Nums (wr.setCell ⟨g, i0, none⟩ (.int .i64 t)) g m (Level.move A i0 t) := hAq.set (g := Level.move A i0 t) (by unfold Level.move; rw [if_pos rfl]) (fun j hj => by unfold Level.move; rw [if_neg hj])
                      have hb4 : Below w.heap.size w (wr.setCell ⟨g, i0, none⟩ (.int .i64 t)) := below_set hwr3 (by omega)
                      have hms : Hid ((sqN (sums L (cellI (wr.setCell ⟨g, i0, none⟩ (.int .i64 t)) g) m) k).toNat < (sqN (sums L (cellI wm g) m) k).toNat) := Lib.hid (by
                        have q1 : sqN (sums L (cellI (wr.setCell ⟨g, i0, none⟩ (.int .i64 t)) g) m) k = sqN (sums L (Level.move A i0 t) m) k := sq_congr k fun j hj => sum_congr (s := j) fun i hi => hA4.read hi
                        have q2 : sqN (sums L (cellI wm g) m) k = sqN (sums L A m) k := sq_congr k fun j hj => sum_congr (s := j) fun i hi => hAt.read hi
                        rw [q1, q2]
                        have := sq_nonneg (sums L (Level.move A i0 t) m) k
                        omega)
                      have hAkF : ∀ j, j < m → 0 ≤ Level.move A i0 t j ∧ Level.move A i0 t j < k := fun j hj => by
                        unfold Level.move
                        split
                        · omega
                        · exact hAk j hj
                      have hEF : Hid (∀ B, Level.Ends L m k (Level.move A i0 t) B → Level.Ends L m k H B) := Lib.hid fun B hB => hE.out B (hsp hi0 (by rw [hte.out]; exact hB))
                      clear hE hsp hdn hnl hl5 hAt hS hAs
                      go_wp2_with fail
                      go_roundw
                      case rel => exact ⟨Level.move A i0 t, hb4, hA4, hAkF, hEF⟩
                      case measure => exact hms.out
end Go.Proofs
