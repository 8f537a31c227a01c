/- Of the document's package: which tables are reached from which. No condition. -/
import Derived.Test.YtaikipdjknhjdaaGreatDoorReach
namespace Go.Proofs
open Go.RowKit Go.Ke Go.Orders

set_option maxRecDepth 20000 in
set_option maxHeartbeats 4000000 in
theorem Tryz.reachR {x : Schema} {w : World} (h : x.At w) :
    Calls Tryz.prog 17 #[x.v] w fun e w' => ∃ mb rb, e = .returned (.slice (some ⟨mb, 0, none⟩) x.n x.n) ∧ MatAt w' mb rb x.n (reach x.gs) ∧ Below w.heap.size w w' ∧ w.heap.size ≤ mb ∧ ∀ i, i < x.n → w.heap.size ≤ rb i := by
  have h6 := h.n6
  obtain ⟨c0, hc0, hz0, hk0⟩ := make_cells Tryz.under52 Tryz.info54' rfl h6 (by decide)
  obtain ⟨c1, hc1, hz1, hk1⟩ := make_cells Tryz.under54 Tryz.info4' rfl h6 (by decide)
  have hw0 : Below w.heap.size w (w.alloc (.cells #[.slice (some ⟨x.tb, 0, none⟩) x.n x.cap] 28)) := (Below.refl _ _).alloc (Nat.le_refl _) _
  have hB : x.Box w.heap.size (w.alloc (.cells #[.slice (some ⟨x.tb, 0, none⟩) x.n x.cap] 28)) := heap_alloc_new' _ _
  have hA1 := h.next hw0
  unfold Schema.v
  go_enter Tryz.func17, Tryz.ntmps17
  go_upto_region 1 with fail
  generalize w.alloc (.cells #[.slice (some ⟨x.tb, 0, none⟩) x.n x.cap] 28) = W1 at hw0 hB hA1 ⊢
  have b0 := hB.cell
  unfold Schema.sl at b0
  go_upto_region 3 with fail
  have hM0 : Mx W1.heap.size (W1.alloc (.cells c0 54)) W1.heap.size (fun _ => 0) x.n 0 (adj x.gs) := ⟨Nat.le_refl _, ⟨c0, heap_alloc_new' _ _, hc0, fun j hj => absurd hj (Nat.not_lt_zero j)⟩, fun j hj => absurd hj (Nat.not_lt_zero j), fun i j hi => absurd hi (Nat.not_lt_zero i), fun i hi => absurd hi (Nat.not_lt_zero i)⟩
  have hw2 : Below W1.heap.size W1 (W1.alloc (.cells c0 54)) := (Below.refl _ _).alloc (Nat.le_refl _) _
  have hs2 : W1.heap.size < (W1.alloc (.cells c0 54)).heap.size := by rw [ex_alloc_size]; omega
  generalize W1.alloc (.cells c0 54) = W2 at hM0 hw2 hs2 ⊢
  have b2 := (show x.Box w.heap.size W2 from heap_kept hw2 hB).cell
  unfold Schema.sl at b2
  clear b0
  go_wp2_with fail
  go_loopw [20] (fun v wr => ∃ (m : Nat) (rb : Nat → Nat), v = .int .i64 m ∧ m ≤ x.n ∧ Below W1.heap.size W1 wr ∧ W1.heap.size < wr.heap.size ∧ Mx W1.heap.size wr W1.heap.size rb x.n m (adj x.gs)) (fun v _ => x.n - (intOf v).toNat)
  case atStart => exact ⟨0, _, rfl, Nat.zero_le _, hw2, hs2, hM0⟩
  case round =>
    obtain ⟨m, rb, rfl, hm, hwr, hsr, hM⟩ := hrel
    by_cases hlt : m < x.n
    · have hA := hA1.next hwr
      have hBr := heap_kept hwr hB
      obtain ⟨t0, t1, t2, t3, t4⟩ := hA.sch.cell hlt
      obtain ⟨ad, fc, hF, hF0⟩ := x.F_at m
      have hn2 := h.nf2 m hlt
      rw [hF] at t3
      have hTb : x.TBox m wr.heap.size (wr.alloc (.cells #[.string (nameL m), .slice (some ⟨x.cb m, 0, none⟩) 2 2, .slice (some ⟨x.kb m, 0, none⟩) 1 1, .slice ad (x.nf m) fc, .slice none 0 0] 39)) := by
        unfold Schema.TBox
        rw [hF]
        exact heap_alloc_new' _ _
      have hwA : Below wr.heap.size wr (wr.alloc (.cells #[.string (nameL m), .slice (some ⟨x.cb m, 0, none⟩) 2 2, .slice (some ⟨x.kb m, 0, none⟩) 1 1, .slice ad (x.nf m) fc, .slice none 0 0] 39)) := (Below.refl _ _).alloc (Nat.le_refl _) _
      have hsA : wr.heap.size < (wr.alloc (.cells #[.string (nameL m), .slice (some ⟨x.cb m, 0, none⟩) 2 2, .slice (some ⟨x.kb m, 0, none⟩) 1 1, .slice ad (x.nf m) fc, .slice none 0 0] 39)).heap.size := by rw [ex_alloc_size]; omega
      generalize hs1 : nameL m = s1 at t0 hTb hwA hsA
      go_upto_region 6 with fail
      generalize wr.alloc (.cells #[.string s1, .slice (some ⟨x.cb m, 0, none⟩) 2 2, .slice (some ⟨x.kb m, 0, none⟩) 1 1, .slice ad (x.nf m) fc, .slice none 0 0] 39) = WA at hTb hwA hsA ⊢
      have hMA := hM.next hwA
      have hWA := below_more hwr (by omega) hwA
      obtain ⟨hv, hho⟩ := hMA.hole hlt
      obtain ⟨q1, q2⟩ := hho (.cells c1 4)
      go_upto_region 7 with fail
      have hM3 := hMA.grow (M' := part x.gs m 0) hc1 (fun j hj => by rw [part_zero]; exact hz1 j hj) (fun i j hi hj => part_old _ (by omega) j) hlt
      have hT3 : x.TBox m wr.heap.size ((WA.alloc (.cells c1 4)).setCell ⟨W1.heap.size, m, none⟩ (.slice (some ⟨WA.heap.size, 0, none⟩) x.n x.n)) := (block_set_ne (by omega)).trans ((heap_alloc_old WA _ hsA).trans hTb)
      have hw3 : Below W1.heap.size W1 ((WA.alloc (.cells c1 4)).setCell ⟨W1.heap.size, m, none⟩ (.slice (some ⟨WA.heap.size, 0, none⟩) x.n x.n)) := below_set (below_more hWA (by omega) ((Below.refl _ _).alloc (Nat.le_refl _) _)) (Nat.le_refl _)
      have hs3 : WA.heap.size < ((WA.alloc (.cells c1 4)).setCell ⟨W1.heap.size, m, none⟩ (.slice (some ⟨WA.heap.size, 0, none⟩) x.n x.n)).heap.size := by rw [size_set, ex_alloc_size]; omega
      generalize (WA.alloc (.cells c1 4)).setCell ⟨W1.heap.size, m, none⟩ (.slice (some ⟨WA.heap.size, 0, none⟩) x.n x.n) = W3 at hM3 hT3 hw3 hs3 ⊢
      have t3' := hT3.cells.2.2.2.1
      rw [hF] at t3'
      generalize (fun j => if j = m then WA.heap.size else rb j) = rb3 at hM3
      clear q1 q2 hho hMA hTb hM t0 t1 t2 t3 t4 hA hBr
      go_wp2_with fail
      go_loopw [33] (fun v wr => ∃ (k : Nat), v = .int .i64 k ∧ k ≤ x.nf m ∧ Below W1.heap.size W1 wr ∧ W1.heap.size < wr.heap.size ∧ Mx W1.heap.size wr W1.heap.size rb3 x.n (m + 1) (part x.gs m k)) (fun v _ => x.nf m - (intOf v).toNat)
      case atStart => exact ⟨0, rfl, Nat.zero_le _, hw3, by omega, hM3⟩
      case round =>
        obtain ⟨k, rfl, hk, hwq, hsq, hMq⟩ := hrel
        by_cases hkl : k < x.nf m
        · have hA := hA1.next hwq
          obtain ⟨f0, f1, f2⟩ := (hA.fors m hlt (by omega)).cell hkl
          have had := hF0 (by omega)
          subst had
          have hwF : Below wr.heap.size wr (wr.alloc (.cells #[.string ⟨#[UInt8.ofNat (102 + k)]⟩, .slice (some ⟨x.xb m k, 0, none⟩) 1 1, .string (nameL (x.tg m k))] 42)) := (Below.refl _ _).alloc (Nat.le_refl _) _
          have g2 : (wr.alloc (.cells #[.string ⟨#[UInt8.ofNat (102 + k)]⟩, .slice (some ⟨x.xb m k, 0, none⟩) 1 1, .string (nameL (x.tg m k))] 42)).cell? ⟨wr.heap.size, 2, none⟩ = some (.string (nameL (x.tg m k))) := by
            unfold World.cell?
            rw [heap_alloc_new']
            rfl
          have hj := h.tgs m hlt k hkl
          have hc := fun (W : World) (hb : Below W1.heap.size W1 W) => Tryz.refTableAt (hA1.next hb).sch h6 hj
          have hpn := fun a b => part_next hlt hkl a b
          generalize (⟨#[UInt8.ofNat (102 + k)]⟩ : ByteArray) = s0 at *
          generalize nameL (x.tg m k) = s2 at *
          generalize x.tg m k = j at *
          go_upto_region 10 with fail
          generalize wr.alloc (.cells #[.string s0, .slice (some ⟨x.xb m k, 0, none⟩) 1 1, .string s2] 42) = WF at hwF g2 ⊢
          have hWF := below_more hwq (by omega) hwF
          have hcF := hc WF.drew hWF.drew
          have hMF := hMq.next hwF
          have e0 : WF.drew.cell? ⟨W1.heap.size, m, none⟩ = _ := hMF.row (Nat.lt_succ_self m)
          have e1 : WF.drew.cell? ⟨wr.heap.size, 2, none⟩ = _ := g2
          have e2 : WF.drew.cell? ⟨w.heap.size, 0, none⟩ = _ := (show x.Box w.heap.size WF from heap_kept hWF hB).cell
          unfold Schema.sl at e2
          clear f0 f1 f2 g2 hc
          refine wp_region_held_drew (S := (fun w' => w'.cell? ⟨W1.heap.size, m, none⟩ = some (.slice (some ⟨rb3 m, 0, none⟩) x.n x.n) ∧ w'.cell? ⟨wr.heap.size, 2, none⟩ = some (.string s2) ∧ w'.cell? ⟨w.heap.size, 0, none⟩ = some (.slice (some ⟨x.tb, 0, none⟩) x.n x.cap))) (by kernel_rfl) ⟨e0, e1, e2⟩ (fun hHeld => ?_)
          refine wpAnyH_take (i := 0) (oi := ?o0) (v := .slice (some ⟨W1.heap.size, 0, none⟩) x.n x.n) ?h0 (by kernel_rfl) (by kernel_rfl) (by kernel_rfl) ?q0 (Or.inl ⟨?w0, ?y0⟩) (by assumption) ?r0
          case h0 => rw [List.getElem?_toArray]; rfl
          case q0 => exact fun _ _ _ h => h
          case w0 => rfl
          case y0 =>
            intro w hSw
            go_simp
          simp only [Act.put, List.setIfInBounds_toArray, List.set_cons_zero, List.set_cons_succ]
          refine wpAnyH_take (i := 1) (oi := ?o1) (v := .int .i64 m) ?h1 (by kernel_rfl) (by kernel_rfl) (by kernel_rfl) ?q1 (Or.inl ⟨?w1, ?y1⟩) (by assumption) ?r1
          case h1 => rw [List.getElem?_toArray]; rfl
          case q1 => exact fun _ _ _ h => h
          case w1 => rfl
          case y1 =>
            intro w hSw
            go_simp
          simp only [Act.put, List.setIfInBounds_toArray, List.set_cons_zero, List.set_cons_succ]
          refine wpAnyH_take (i := 2) (oi := ?o2) (v := .pointer (some ⟨W1.heap.size, m, none⟩)) ?h2 (by kernel_rfl) (by kernel_rfl) (by kernel_rfl) ?q2 (Or.inl ⟨?w2, ?y2⟩) (by assumption) ?r2
          case h2 => rw [List.getElem?_toArray]; rfl
          case q2 => exact fun _ _ _ h => h
          case w2 => rfl
          case y2 =>
            intro w hSw
            go_simp
          simp only [Act.put, List.setIfInBounds_toArray, List.set_cons_zero, List.set_cons_succ]
          refine wpAnyH_take (i := 3) (oi := ?o3) (v := .slice (some ⟨rb3 m, 0, none⟩) x.n x.n) ?h3 (by kernel_rfl) (by kernel_rfl) (by kernel_rfl) ?q3 (Or.inl ⟨?w3, ?y3⟩) (by assumption) ?r3
          case h3 => rw [List.getElem?_toArray]; rfl
          case q3 => exact fun _ _ _ h => h
          case w3 => rfl
          case y3 =>
            intro w hSw
            go_simp
          simp only [Act.put, List.setIfInBounds_toArray, List.set_cons_zero, List.set_cons_succ]
          refine wpAnyH_take (i := 4) (oi := ?o4) (v := .agg #[.slice (some ⟨x.tb, 0, none⟩) x.n x.cap]) ?h4 (by kernel_rfl) (by kernel_rfl) (by kernel_rfl) ?q4 (Or.inl ⟨?w4, ?y4⟩) (by assumption) ?r4
          case h4 => rw [List.getElem?_toArray]; rfl
          case q4 => exact fun _ _ _ h => h
          case w4 => rfl
          case y4 =>
            intro w hSw
            go_simp
          simp only [Act.put, List.setIfInBounds_toArray, List.set_cons_zero, List.set_cons_succ]
          refine wpAnyH_take (i := 5) (oi := ?o5) (v := .pointer (some ⟨wr.heap.size, 2, none⟩)) ?h5 (by kernel_rfl) (by kernel_rfl) (by kernel_rfl) ?q5 (Or.inl ⟨?w5, ?y5⟩) (by assumption) ?r5
          case h5 => rw [List.getElem?_toArray]; rfl
          case q5 => exact fun _ _ _ h => h
          case w5 => rfl
          case y5 =>
            intro w hSw
            go_simp
          simp only [Act.put, List.setIfInBounds_toArray, List.set_cons_zero, List.set_cons_succ]
          refine wpAnyH_take (i := 6) (oi := ?o6) (v := .string s2) ?h6 (by kernel_rfl) (by kernel_rfl) (by kernel_rfl) ?q6 (Or.inl ⟨?w6, ?y6⟩) (by assumption) ?r6
          case h6 => rw [List.getElem?_toArray]; rfl
          case q6 => exact fun _ _ _ h => h
          case w6 => rfl
          case y6 =>
            intro w hSw
            go_simp
          simp only [Act.put, List.setIfInBounds_toArray, List.set_cons_zero, List.set_cons_succ]
          refine wpAnyH_ready (rs := [7]) (by kernel_rfl) (by simp) ?_
          refine AllReadyH.cons (o := ?b7) ?g7 (fun K hK => ?s7) AllReadyH.nil
          case g7 => rw [List.getElem?_toArray]; rfl
          go_simp
          with_reducible refine Calls.mono hcF ?_
          rintro e w4 ⟨rfl, hb4⟩
          have hM4 := (hMF.next (Below.refl _ _).drew).next hb4
          obtain ⟨e3, e4⟩ := (hM4.cells m (Nat.lt_succ_self m)).cell hj
          have d0 := cell_kept hb4 e0
          have d1 := cell_kept hb4 e1
          have d2 := cell_kept hb4 e2
          go_wp2_with fail
          refine hK.out _ _ ⟨d0, d1, d2⟩ (fun hHeld => ?_)
          clear hK K e0 e1 e2
          try simp only [Act.put, List.setIfInBounds_toArray, List.set_cons_zero, List.set_cons_succ]
          refine wpAnyH_take (i := 8) (oi := ?o8) (v := .pointer (some ⟨rb3 m, j, none⟩)) ?h8 (by kernel_rfl) (by kernel_rfl) (by kernel_rfl) ?q8 (Or.inl ⟨?w8, ?y8⟩) (by assumption) ?r8
          case h8 => rw [List.getElem?_toArray]; rfl
          case q8 => exact fun _ _ _ h => h
          case w8 => rfl
          case y8 =>
            intro w hSw
            go_simp
          simp only [Act.put, List.setIfInBounds_toArray, List.set_cons_zero, List.set_cons_succ]
          refine wpAnyH_ready (rs := [9]) (by kernel_rfl) (by simp) ?_
          refine AllReadyH.cons (o := ?b9) ?g9 (fun K hK => ?s9) AllReadyH.nil
          case g9 => rw [List.getElem?_toArray]; rfl
          go_simp
          have hsw := hwq.size
          have hsF := hwF.size
          have hlr := hM4.lt m (Nat.lt_succ_self m)
          have hlq := (hMq.cells m (Nat.lt_succ_self m)).lt
          have hlw := blk_lt hB
          refine hK.out _ _ ⟨cell_set_ne (by omega) d0, cell_set_ne (by omega) d1, cell_set_ne (by omega) d2⟩ (fun hHeld => ?_)
          clear hK K hHeld
          try simp only [Act.put, List.setIfInBounds_toArray, List.set_cons_zero, List.set_cons_succ]
          refine wpAnyH_done (by kernel_rfl) ?_ _
          go_wp2_with fail
          go_roundw
          case rel => exact ⟨k + 1, by go_num, by omega, below_set (below_more hWF.drew (by have := hwF.size; show _ ≤ WF.heap.size; omega) hb4) (by have := hM4.lt m (Nat.lt_succ_self m); omega), by rw [size_set]; have h1 := hb4.size; have h2 := hwF.size; have : WF.drew.heap.size = WF.heap.size := rfl; omega, hM4.set (Nat.lt_succ_self m) (by rw [hpn, if_pos ⟨rfl, rfl⟩]) fun a b hab => by rw [hpn, if_neg (by omega)]⟩
          case measure => simp [intOf]; omega
        · go_wp2_with fail
          go_roundw
          case rel => exact ⟨m + 1, rb3, by go_num, by omega, hwq, hsq, hMq.ext fun i j _ _ => by rw [part_full hlt, show x.nf m = k by omega]⟩
          case measure => simp [intOf]; omega
    · have hmn : m = x.n := by omega
      subst hmn
      clear hM0 hw2 hs2 b2
      go_wp2_with fail
      go_loopw [49] (fun v wr => ∃ k : Nat, v = .int .i64 k ∧ k ≤ x.n ∧ Below W1.heap.size W1 wr ∧ W1.heap.size < wr.heap.size ∧ Mx W1.heap.size wr W1.heap.size rb x.n x.n (warsh (adj x.gs) k)) (fun v _ => x.n - (intOf v).toNat)
      case atStart => exact ⟨0, rfl, Nat.zero_le _, hwr, hsr, hM⟩
      case round =>
        obtain ⟨k, rfl, hk, hwk, hsk, hMk⟩ := hrel
        by_cases hkn : k < x.n
        · go_wp2_with fail
          go_loopw [53] (fun v wr => ∃ i : Nat, v = .int .i64 i ∧ i ≤ x.n ∧ Below W1.heap.size W1 wr ∧ W1.heap.size < wr.heap.size ∧ Mx W1.heap.size wr W1.heap.size rb x.n x.n (mixed (warsh (adj x.gs) k) k i 0)) (fun v _ => x.n - (intOf v).toNat)
          case atStart => exact ⟨0, rfl, Nat.zero_le _, hwk, hsk, by rw [mixed_zero]; exact hMk⟩
          case round =>
            obtain ⟨i, rfl, hi, hwi, hsi, hMi⟩ := hrel
            by_cases hin : i < x.n
            · go_wp2_with fail
              go_loopw [57] (fun v wr => ∃ j : Nat, v = .int .i64 j ∧ j ≤ x.n ∧ Below W1.heap.size W1 wr ∧ W1.heap.size < wr.heap.size ∧ Mx W1.heap.size wr W1.heap.size rb x.n x.n (mixed (warsh (adj x.gs) k) k i j)) (fun v _ => x.n - (intOf v).toNat)
              case atStart => exact ⟨0, rfl, Nat.zero_le _, hwi, hsi, hMi⟩
              case round =>
                obtain ⟨j, rfl, hj, hwj, hsj, hMj⟩ := hrel
                by_cases hjn : j < x.n
                · have d1 := hMj.row hin
                  have d2 := hMj.row hkn
                  obtain ⟨e1, e4⟩ := (hMj.cells i hin).cell hjn
                  have e2 := ((hMj.cells i hin).cell hkn).1
                  have e3 := ((hMj.cells k hkn).cell hjn).1
                  rw [mixed_here] at e1
                  rw [mixed_col] at e2
                  rw [mixed_row] at e3
                  have hS := fun v hv => hMj.set (M' := mixed (warsh (adj x.gs) k) k i (j + 1)) (i := i) (j := j) (v := v) hin hv fun a b hab => by rw [mixed_next, if_neg (by omega)]
                  have hnx : mixed (warsh (adj x.gs) k) k i (j + 1) i j = (warsh (adj x.gs) k i j || (warsh (adj x.gs) k i k && warsh (adj x.gs) k k j)) := by rw [mixed_next, if_pos ⟨rfl, rfl⟩]; rfl
                  generalize warsh (adj x.gs) k i j = u1 at *
                  generalize warsh (adj x.gs) k i k = u2 at *
                  generalize warsh (adj x.gs) k k j = u3 at *
                  replace hS := hS _ hnx.symm
                  clear hnx
                  go_upto_region 22 with fail
                  have d1 : wr.drew.cell? ⟨W1.heap.size, i, none⟩ = _ := d1
                  have d2 : wr.drew.cell? ⟨W1.heap.size, k, none⟩ = _ := d2
                  have e1 : wr.drew.cell? ⟨rb i, j, none⟩ = _ := e1
                  have e2 : wr.drew.cell? ⟨rb i, k, none⟩ = _ := e2
                  have e3 : wr.drew.cell? ⟨rb k, j, none⟩ = _ := e3
                  have e4 : wr.drew.frozen? ⟨rb i, j, none⟩ = _ := e4
                  have hlr := hMj.lt i hin
                  refine wp_region_still_tail 31 tryz_mixed (by kernel_rfl) ?_
                  change wpStill _ _ wr.drew _ _ _
                  simp only [List.take_succ_cons, List.take_zero, List.drop_succ_cons, List.drop_zero]
                  refine still_via fun KK hKK => ?_
                  cases u1 <;> cases u2 <;> cases u3
                  all_goals
                    iterate 31 (refine Still.step (fun K hK => ?_); go_simp; refine hK _ ?_; clear hK K)
                    refine Still.nil ?_
                    refine hKK _ ?_
                    clear hKK
                    change wpList _ _ _ _ _ _
                    go_wp2_with fail
                    go_roundw
                    case rel => exact ⟨j + 1, by go_num, by omega, (below_set hwj (by omega)).drew, by show _ < (World.setCell wr _ _).heap.size; rw [size_set]; exact hsj, hS.next (Below.refl _ _).drew⟩
                    case measure => simp [intOf]; omega
                · go_wp2_with fail
                  go_roundw
                  case rel => exact ⟨i + 1, by go_num, by omega, hwj, hsj, hMj.ext fun a b ha hb => by unfold mixed; congr 1; apply propext; constructor <;> omega⟩
                  case measure => simp [intOf]; omega
            · go_wp2_with fail
              go_roundw
              case rel => exact ⟨k + 1, by go_num, by omega, hwi, hsi, hMi.ext fun a b ha hb => by show stepW _ k a b = _; unfold mixed; rw [if_pos (by omega)]⟩
              case measure => simp [intOf]; omega
        · have hkx : k = x.n := by omega
          subst hkx
          go_wp2_with fail
          go_ret
          refine ⟨W1.heap.size, rb, rfl, ?_, ?_, hw0.size, fun i hi => ?_⟩
          · unfold reach
            rw [x.gs_len]
            exact hMk.mat
          · exact hw0.trans (hwk.mono hw0.size)
          · have := hMk.lt i hi
            have := hw0.size
            omega
end Go.Proofs
