/- Of package dumbmake: Stream.Scalar. No condition. -/
import Derived.Test.YtkpligcifakmjaaGreatDoorTruth
import Derived.Test.YtkpligcifakmjaaGreatDoorLf
namespace Go.Proofs
open Go.RowKit Go.Ke

theorem Cl.bare {P : Pm} {B : Nat} {deep : Int} {x : Node} {w W : World} {a : Int} (h : Sc P B deep w W a) :
    Cl P B W.heap.size deep x w (W.alloc (.cells (x.cells (.slice none 0 0)) 57)) a (.slice none 0 0) [] :=
  ⟨h.call ((Below.refl W.heap.size W).alloc (Nat.le_refl _) _), Box.new _ _ _, RowAt.nil _ _ _, h.size⟩

set_option maxRecDepth 20000 in
set_option maxHeartbeats 8000000 in
theorem Tryz.scalarG {P : Pm} (hP : P.ok) {n C : Nat} {K M M' : Int} (ih : ScC P n C K M) (hn : n ≤ 100) (hK : 0 ≤ K) (hC : 1 ≤ C) (hM : M ≤ 60000) (hM' : M' + 5 * K + 60 ≤ M) : ScC P (n + 1) (5 * C + 1) (5 * K + 30) M' := by
  intro W a kind h ha hk1 hk2
  have e : ((n + 1 : Nat) : Int) = (n : Int) + 1 := by omega
  rw [e]
  clear e
  have hg := h.live.lt
  have hn0 : ¬ ((n : Int) + 1 ≤ 0) := by omega
  have hS := Sc.start h ((n : Int) + 1)
  unfold zeroX Node.cells at hS
  go_enter Tryz.func79, Tryz.ntmps79
  go_upto_region 1 with fail
  generalize (World.alloc _ (.cells _ 57)) = W0 at hS ⊢
  obtain ⟨q0, q1, q2, q3⟩ := hS.cells
  go_wp2_with fail
  refine (Tryz.flipL hS.live (by omega) 4 (by omega) (by omega)).mono ?_
  rintro e V1 ⟨fl, rfl, hL, hT⟩
  replace hS := hS.turn hT hL
  obtain ⟨q0, q1, q2, q3⟩ := hS.cells
  clear hL hT
  cases fl with
  | true =>
    go_wp2_with fail
    refine Calls.mono (Tryz.leafG hP hS.gen (by omega) kind hk1 hk2) ?_
    rintro e V2 ⟨t, d, c, b, rfl, hX, hb, hL, hT⟩
    have hR := hX.less (D := 5 * C + 1) (by omega) hS.size
    replace hS := hS.turn hT hL
    clear hX hT hL
    have hF := Out.fin (a := a) (K := 5 * K + 30) hS.turns hS.live hR hS.res (Nat.le_add_right _ _) (by omega) hg (by omega)
    obtain ⟨c0, c1, c2, c3, c4, c5, c6, c7, c8, c9, c10, c11, c12⟩ := hS.res.is
    obtain ⟨f0, f1, f2, f3, f4, f5, f6, f7, f8, f9, f10, f11, f12⟩ := hS.res.frozs
    simp only [Ex.v, Node.v, Node.cells] at hF ⊢
    go_wp2_with fail
    exact bodyPost_ret (res_box13 Tryz.results79 rfl hF.2) rfl hF.1
  | false =>
    go_wp2_with fail
    refine (Tryz.nextL hS.live (by omega) 7 (by omega) (by omega)).mono ?_
    rintro e V2 ⟨r, hr1, hr2, rfl, hL, hT⟩
    replace hS := hS.turn hT hL
    obtain ⟨q0, q1, q2, q3⟩ := hS.cells
    clear hL hT
    by_cases r0 : r = 0
    · subst r0
      obtain ⟨hsz, -⟩ : W.heap.size + 5 ≤ V2.heap.size ∧ True := ⟨hS.size, trivial⟩
      have hG : Cl P W.heap.size V2.heap.size ((n : Int) + 1) ⟨5, 0, 0, 0, 0, ⟨#[]⟩, ⟨#[]⟩, ⟨#[]⟩, false⟩ W (World.alloc V2 (.cells #[.int .i64 5, .int .i64 0, .int .i64 0, .int .i64 0, .int .i64 0, .string ⟨#[]⟩, .string ⟨#[]⟩, .string ⟨#[]⟩, .bool false, .slice none 0 0, .slice none 0 0, .slice none 0 0, .slice none 0 0] 57)) (a + 1 + 1) (Value.slice none 0 0) [] := Cl.bare hS
      have q0 := fun o => (hS.call ((Below.refl V2.heap.size V2).alloc (Nat.le_refl _) o)).cells.1
      go_wp2_with fail
      change Calls Tryz.prog 13 _ (World.alloc V2 (.cells #[.int .i64 5, .int .i64 0, .int .i64 0, .int .i64 0, .int .i64 0, .string ⟨#[]⟩, .string ⟨#[]⟩, .string ⟨#[]⟩, .bool false, .slice none 0 0, .slice none 0 0, .slice none 0 0, .slice none 0 0] 57)) _
      generalize World.alloc V2 (.cells #[.int .i64 5, .int .i64 0, .int .i64 0, .int .i64 0, .int .i64 0, .string ⟨#[]⟩, .string ⟨#[]⟩, .string ⟨#[]⟩, .bool false, .slice none 0 0, .slice none 0 0, .slice none 0 0, .slice none 0 0] 57) = V3 at hG ⊢
      generalize hy : V2.heap.size = y at hG ⊢
      clear hS q0 q1 q2 q3 hy
      generalize (Value.slice none 0 0) = v1 at hG
      refine (Tryz.rangeL hG.sc.live (by omega) 1 2 (by omega) (by omega) (by omega)).mono ?_
      rintro e V4 ⟨r, hr3, hr4, rfl, hL, hT⟩
      replace hG := hG.turn hT hL
      clear hL hT
      go_wp2_with fail
      go_loopw [35] (fun i wr => ∃ (q : Nat) (ts : List (Ex × Option Addr × Nat)) (v : Value) (b : Int), i = .int .i64 q ∧ (q : Int) ≤ r ∧ ts.length = 2 * q ∧ countR ts ≤ q * C + q * C ∧ b ≤ a + 3 + q * K + q * K ∧ Cl P W.heap.size y ((n : Int) + 1) ⟨5, 0, 0, 0, 0, ⟨#[]⟩, ⟨#[]⟩, ⟨#[]⟩, false⟩ W wr b v ts) (fun i _ => r.toNat - (intOf i).toNat)
      case atStart => exact ⟨0, _, _, _, rfl, by omega, rfl, by simp [countR], by simp; omega, hG⟩
      case round =>
        obtain ⟨q, ts, v, b, rfl, hq, hts, hct, hb, hG'⟩ := hrel
        clear hG
        have hG := hG'
        clear hG'
        have hqK : (q : Int) * K ≤ 2 * K := Int.mul_le_mul_of_nonneg_right (by omega) hK
        have hqK2 : ((q + 1 : Nat) : Int) * K = q * K + K := by rw [Int.natCast_add, Int.add_mul]; omega
        have hqC : (q + 1) * C = q * C + C := by rw [Nat.add_mul q]; omega
        have hqC2 : q * C ≤ 2 * C := Nat.mul_le_mul_right _ (by omega)
        by_cases hlt : (q : Int) < r
        · go_upto_region 9 with fail
          refine wp_region_held_drew (S := fun _ => True) (by kernel_rfl) trivial (fun hHeld => ?_)
          replace hG := hG.call (Below.refl _ wr).drew
          generalize World.drew wr = U0 at hG ⊢
          have hc := hG.cells.2.2.2.2.1
          refine wpAnyH_take (i := 0) (oi := ?ut1o) (v := .pointer (some ⟨y, 9, none⟩)) ?ut1h (by kernel_rfl) (by kernel_rfl) (by kernel_rfl) ?ut1q (Or.inl ⟨?ut1w, ?ut1y⟩) trivial ?ut1r
          case ut1h => rw [List.getElem?_toArray]; rfl
          case ut1q => exact fun _ _ _ h => h
          case ut1w => rfl
          case ut1y =>
            intro w hSw
            go_simp
          simp only [Act.put, List.setIfInBounds_toArray, List.set_cons_zero, List.set_cons_succ]
          refine wpAnyH_take (i := 2) (oi := ?ut2o) (v := .func (.func 113) #[] #[.pointer (some ⟨W.heap.size, 0, none⟩), .pointer (some ⟨W.heap.size + 1, 0, none⟩), .pointer (some ⟨W.heap.size + 1 + 1, 0, none⟩), .pointer (some ⟨W.heap.size + 1 + 1 + 1, 0, none⟩)]) ?ut2h (by kernel_rfl) (by kernel_rfl) (by kernel_rfl) ?ut2q (Or.inl ⟨?ut2w, ?ut2y⟩) trivial ?ut2r
          case ut2h => rw [List.getElem?_toArray]; rfl
          case ut2q => exact fun _ _ _ h => h
          case ut2w => rfl
          case ut2y =>
            intro w hSw
            go_simp
          simp only [Act.put, List.setIfInBounds_toArray, List.set_cons_zero, List.set_cons_succ]
          refine wpAnyH_take (i := 4) (oi := ?ut3o) (v := .func (.func 113) #[] #[.pointer (some ⟨W.heap.size, 0, none⟩), .pointer (some ⟨W.heap.size + 1, 0, none⟩), .pointer (some ⟨W.heap.size + 1 + 1, 0, none⟩), .pointer (some ⟨W.heap.size + 1 + 1 + 1, 0, none⟩)]) ?ut3h (by kernel_rfl) (by kernel_rfl) (by kernel_rfl) ?ut3q (Or.inl ⟨?ut3w, ?ut3y⟩) trivial ?ut3r
          case ut3h => rw [List.getElem?_toArray]; rfl
          case ut3q => exact fun _ _ _ h => h
          case ut3w => rfl
          case ut3y =>
            intro w hSw
            go_simp
          simp only [Act.put, List.setIfInBounds_toArray, List.set_cons_zero, List.set_cons_succ]
          refine wpAnyH_take (i := 5) (oi := ?ut4o) (v := .int .i64 kind) ?ut4h (by kernel_rfl) (by kernel_rfl) (by kernel_rfl) ?ut4q (Or.inl ⟨?ut4w, ?ut4y⟩) trivial ?ut4r
          case ut4h => rw [List.getElem?_toArray]; rfl
          case ut4q => exact fun _ _ _ h => h
          case ut4w => rfl
          case ut4y =>
            intro w hSw
            go_simp
          simp only [Act.put, List.setIfInBounds_toArray, List.set_cons_zero, List.set_cons_succ]
          refine wpAnyH_ready (rs := [1, 3]) (by kernel_rfl) (by simp) ?_
          refine AllReadyH.cons (o := ?ub5o) ?ub5h (fun K hK => ?ub5s) (AllReadyH.cons (o := ?ub6o) ?ub6h (fun K hK => ?ub6s) AllReadyH.nil)
          case ub5h => rw [List.getElem?_toArray]; rfl
          case ub6h => rw [List.getElem?_toArray]; rfl
          case ub5s =>
            go_simp
            refine hK.out _ _ trivial (fun hHeld => ?_)
            clear hK K
            try simp only [Act.put, List.setIfInBounds_toArray, List.set_cons_zero, List.set_cons_succ]
            refine wpAnyH_ready (rs := [3]) (by kernel_rfl) (by simp) ?_
            refine AllReadyH.cons (o := ?ub7o) ?ub7h (fun K hK => ?ub7s) AllReadyH.nil
            case ub7h => rw [List.getElem?_toArray]; rfl
            go_simp
            refine Calls.mono (Tryz.sub113 ih hG.sc (by omega) hn 1 (by omega)) ?_
            rintro e U2 ⟨t2, d2, c2, b2, rfl, hX2, hb2, hL, hT⟩
            go_wp2_with fail
            refine hK.out _ _ trivial (fun hHeld => ?_)
            clear hK K
            have hsT := hT.size
            have hA2 := hX2.apart (B := W.heap.size) (y := y) (v := v) hG.sc.size (blk_lt hG.box) (fun k hk => (hG.row.own.lt k hk).2)
            have hn2 := hX2.2
            replace hG := hG.turn hT hL
            have hc := hG.cells.2.2.2.2.1
            clear hT hL hsT hX2
            simp only [Ex.v, Node.v, Node.cells]
            try simp only [Act.put, List.setIfInBounds_toArray, List.set_cons_zero, List.set_cons_succ]
            refine wpAnyH_ready (rs := [6]) (by kernel_rfl) (by simp) ?_
            refine AllReadyH.cons (o := ?ub8o) ?ub8h (fun K hK => ?ub8s) AllReadyH.nil
            case ub8h => rw [List.getElem?_toArray]; rfl
            go_simp
            refine Calls.mono (Tryz.sub113 ih hG.sc (by omega) hn kind ⟨hk1, hk2⟩) ?_
            rintro e U3 ⟨t3, d3, c3, b3, rfl, hX3, hb3, hL, hT⟩
            go_wp2_with fail
            refine hK.out _ _ trivial (fun hHeld => ?_)
            clear hK K
            have hsT := hT.size
            have hA3 := hX3.apart (B := W.heap.size) (y := y) (v := v) hG.sc.size (blk_lt hG.box) (fun k hk => (hG.row.own.lt k hk).2)
            replace hA2 := apart_turn hT (by have := hG.sc.lt; omega) hA2
            have hn3 := hX3.2
            replace hG := hG.turn hT hL
            have hc := hG.cells.2.2.2.2.1
            clear hT hL hsT hX3
            simp only [Ex.v, Node.v, Node.cells]
            try simp only [Act.put, List.setIfInBounds_toArray, List.set_cons_zero, List.set_cons_succ]
            refine wpAnyH_ready (rs := [7]) (by kernel_rfl) (by simp) ?_
            refine AllReadyH.cons (o := ?ub9o) ?ub9h (fun K hK => ?ub9s) AllReadyH.nil
            case ub9h => rw [List.getElem?_toArray]; rfl
            have hcA := fun o => (hG.call ((Below.refl U3.heap.size U3).alloc (Nat.le_refl _) o)).cells.2.2.2.2.1
            go_simp
            refine hK.out _ _ trivial (fun hHeld => ?_)
            clear hK K
            try simp only [Act.put, List.setIfInBounds_toArray, List.set_cons_zero, List.set_cons_succ]
            refine wpAnyH_ready (rs := [8]) (by kernel_rfl) (by simp) ?_
            refine AllReadyH.cons (o := ?ub10o) ?ub10h (fun K hK => ?ub10s) AllReadyH.nil
            case ub10h => rw [List.getElem?_toArray]; rfl
            refine Eq.mpr (if_pos ?ux110) ?_
            case ux110 => rfl
            refine hG.append (.tmp 38) (.tmp 44) ?ux111 ?ux112 [(t2, d2, c2), (t3, d3, c3)] ?ux113 ?ux114 ?ux115 ?ux116 ?ux117
            case ux111 => rfl
            case ux112 => rfl
            case ux113 => exact (by intro t ht; simp only [List.mem_cons, List.not_mem_nil, or_false] at ht; rcases ht with rfl | rfl; exact hA2; exact hA3)
            case ux114 => simp
            case ux115 => simp; omega
            case ux116 => rfl
            intro v' U' hN
            obtain ⟨hB2, hR2, hS2⟩ := hN _ rfl
            obtain ⟨gr, ln, cp, rfl⟩ := hR2.slice (by simp)
            have hge := hG.ge
            clear hG hcA hc hN
            have y9 := hB2.is.c9
            have z9 := hB2.froz 9
            refine hK.out _ _ trivial (fun hHeld => ?_)
            clear hK K
            try simp only [Act.put, List.setIfInBounds_toArray, List.set_cons_zero, List.set_cons_succ]
            refine wpAnyH_take (i := 9) (oi := ?ut12o) (v := .pointer (some ⟨y, 9, none⟩)) ?ut12h (by kernel_rfl) (by kernel_rfl) (by kernel_rfl) ?ut12q (Or.inl ⟨?ut12w, ?ut12y⟩) trivial ?ut12r
            case ut12h => rw [List.getElem?_toArray]; rfl
            case ut12q => exact fun _ _ _ h => h
            case ut12w => rfl
            case ut12y =>
              intro w hSw
              go_simp
            simp only [Act.put, List.setIfInBounds_toArray, List.set_cons_zero, List.set_cons_succ]
            refine wpAnyH_ready (rs := [10]) (by kernel_rfl) (by simp) ?_
            refine AllReadyH.cons (o := ?ub13o) ?ub13h (fun K hK => ?ub13s) AllReadyH.nil
            case ub13h => rw [List.getElem?_toArray]; rfl
            go_simp
            have hG := Cl.stored hge hB2 hR2 hS2
            clear hB2 hR2 hS2 y9 z9 hge
            refine hK.out _ _ trivial (fun hHeld => ?_)
            clear hK K
            try simp only [Act.put, List.setIfInBounds_toArray, List.set_cons_zero, List.set_cons_succ]
            generalize World.setCell U' ⟨y, 9, none⟩ (.slice (some ⟨gr, 0, none⟩) ln cp) = U'' at hG ⊢
            refine wpAnyH_done (by kernel_rfl) ?_ _
            go_wp2_with fail
            go_roundw
            case rel => exact ⟨q + 1, _, _, _, by go_num, by omega, by simp; omega, by rw [countR_append]; simp only [countR]; omega, by omega, hG⟩
            case measure => simp [intOf]; omega
          case ub6s =>
            go_simp
            refine Calls.mono (Tryz.sub113 ih hG.sc (by omega) hn 1 (by omega)) ?_
            rintro e U2 ⟨t2, d2, c2, b2, rfl, hX2, hb2, hL, hT⟩
            go_wp2_with fail
            refine hK.out _ _ trivial (fun hHeld => ?_)
            clear hK K
            have hsT := hT.size
            have hA2 := hX2.apart (B := W.heap.size) (y := y) (v := v) hG.sc.size (blk_lt hG.box) (fun k hk => (hG.row.own.lt k hk).2)
            have hn2 := hX2.2
            replace hG := hG.turn hT hL
            have hc := hG.cells.2.2.2.2.1
            clear hT hL hsT hX2
            simp only [Ex.v, Node.v, Node.cells]
            try simp only [Act.put, List.setIfInBounds_toArray, List.set_cons_zero, List.set_cons_succ]
            refine wpAnyH_ready (rs := [1, 6]) (by kernel_rfl) (by simp) ?_
            refine AllReadyH.cons (o := ?ub14o) ?ub14h (fun K hK => ?ub14s) (AllReadyH.cons (o := ?ub15o) ?ub15h (fun K hK => ?ub15s) AllReadyH.nil)
            case ub14h => rw [List.getElem?_toArray]; rfl
            case ub15h => rw [List.getElem?_toArray]; rfl
            case ub14s =>
              go_simp
              refine hK.out _ _ trivial (fun hHeld => ?_)
              clear hK K
              try simp only [Act.put, List.setIfInBounds_toArray, List.set_cons_zero, List.set_cons_succ]
              refine wpAnyH_ready (rs := [6]) (by kernel_rfl) (by simp) ?_
              refine AllReadyH.cons (o := ?ub16o) ?ub16h (fun K hK => ?ub16s) AllReadyH.nil
              case ub16h => rw [List.getElem?_toArray]; rfl
              go_simp
              refine Calls.mono (Tryz.sub113 ih hG.sc (by omega) hn kind ⟨hk1, hk2⟩) ?_
              rintro e U3 ⟨t3, d3, c3, b3, rfl, hX3, hb3, hL, hT⟩
              go_wp2_with fail
              refine hK.out _ _ trivial (fun hHeld => ?_)
              clear hK K
              have hsT := hT.size
              have hA3 := hX3.apart (B := W.heap.size) (y := y) (v := v) hG.sc.size (blk_lt hG.box) (fun k hk => (hG.row.own.lt k hk).2)
              replace hA2 := apart_turn hT (by have := hG.sc.lt; omega) hA2
              have hn3 := hX3.2
              replace hG := hG.turn hT hL
              have hc := hG.cells.2.2.2.2.1
              clear hT hL hsT hX3
              simp only [Ex.v, Node.v, Node.cells]
              try simp only [Act.put, List.setIfInBounds_toArray, List.set_cons_zero, List.set_cons_succ]
              refine wpAnyH_ready (rs := [7]) (by kernel_rfl) (by simp) ?_
              refine AllReadyH.cons (o := ?ub17o) ?ub17h (fun K hK => ?ub17s) AllReadyH.nil
              case ub17h => rw [List.getElem?_toArray]; rfl
              have hcA := fun o => (hG.call ((Below.refl U3.heap.size U3).alloc (Nat.le_refl _) o)).cells.2.2.2.2.1
              go_simp
              refine hK.out _ _ trivial (fun hHeld => ?_)
              clear hK K
              try simp only [Act.put, List.setIfInBounds_toArray, List.set_cons_zero, List.set_cons_succ]
              refine wpAnyH_ready (rs := [8]) (by kernel_rfl) (by simp) ?_
              refine AllReadyH.cons (o := ?ub18o) ?ub18h (fun K hK => ?ub18s) AllReadyH.nil
              case ub18h => rw [List.getElem?_toArray]; rfl
              refine Eq.mpr (if_pos ?ux190) ?_
              case ux190 => rfl
              refine hG.append (.tmp 38) (.tmp 44) ?ux191 ?ux192 [(t2, d2, c2), (t3, d3, c3)] ?ux193 ?ux194 ?ux195 ?ux196 ?ux197
              case ux191 => rfl
              case ux192 => rfl
              case ux193 => exact (by intro t ht; simp only [List.mem_cons, List.not_mem_nil, or_false] at ht; rcases ht with rfl | rfl; exact hA2; exact hA3)
              case ux194 => simp
              case ux195 => simp; omega
              case ux196 => rfl
              intro v' U' hN
              obtain ⟨hB2, hR2, hS2⟩ := hN _ rfl
              obtain ⟨gr, ln, cp, rfl⟩ := hR2.slice (by simp)
              have hge := hG.ge
              clear hG hcA hc hN
              have y9 := hB2.is.c9
              have z9 := hB2.froz 9
              refine hK.out _ _ trivial (fun hHeld => ?_)
              clear hK K
              try simp only [Act.put, List.setIfInBounds_toArray, List.set_cons_zero, List.set_cons_succ]
              refine wpAnyH_take (i := 9) (oi := ?ut20o) (v := .pointer (some ⟨y, 9, none⟩)) ?ut20h (by kernel_rfl) (by kernel_rfl) (by kernel_rfl) ?ut20q (Or.inl ⟨?ut20w, ?ut20y⟩) trivial ?ut20r
              case ut20h => rw [List.getElem?_toArray]; rfl
              case ut20q => exact fun _ _ _ h => h
              case ut20w => rfl
              case ut20y =>
                intro w hSw
                go_simp
              simp only [Act.put, List.setIfInBounds_toArray, List.set_cons_zero, List.set_cons_succ]
              refine wpAnyH_ready (rs := [10]) (by kernel_rfl) (by simp) ?_
              refine AllReadyH.cons (o := ?ub21o) ?ub21h (fun K hK => ?ub21s) AllReadyH.nil
              case ub21h => rw [List.getElem?_toArray]; rfl
              go_simp
              have hG := Cl.stored hge hB2 hR2 hS2
              clear hB2 hR2 hS2 y9 z9 hge
              refine hK.out _ _ trivial (fun hHeld => ?_)
              clear hK K
              try simp only [Act.put, List.setIfInBounds_toArray, List.set_cons_zero, List.set_cons_succ]
              generalize World.setCell U' ⟨y, 9, none⟩ (.slice (some ⟨gr, 0, none⟩) ln cp) = U'' at hG ⊢
              refine wpAnyH_done (by kernel_rfl) ?_ _
              go_wp2_with fail
              go_roundw
              case rel => exact ⟨q + 1, _, _, _, by go_num, by omega, by simp; omega, by rw [countR_append]; simp only [countR]; omega, by omega, hG⟩
              case measure => simp [intOf]; omega
            case ub15s =>
              go_simp
              refine Calls.mono (Tryz.sub113 ih hG.sc (by omega) hn kind ⟨hk1, hk2⟩) ?_
              rintro e U3 ⟨t3, d3, c3, b3, rfl, hX3, hb3, hL, hT⟩
              go_wp2_with fail
              refine hK.out _ _ trivial (fun hHeld => ?_)
              clear hK K
              have hsT := hT.size
              have hA3 := hX3.apart (B := W.heap.size) (y := y) (v := v) hG.sc.size (blk_lt hG.box) (fun k hk => (hG.row.own.lt k hk).2)
              replace hA2 := apart_turn hT (by have := hG.sc.lt; omega) hA2
              have hn3 := hX3.2
              replace hG := hG.turn hT hL
              have hc := hG.cells.2.2.2.2.1
              clear hT hL hsT hX3
              simp only [Ex.v, Node.v, Node.cells]
              try simp only [Act.put, List.setIfInBounds_toArray, List.set_cons_zero, List.set_cons_succ]
              refine wpAnyH_ready (rs := [1, 7]) (by kernel_rfl) (by simp) ?_
              refine AllReadyH.cons (o := ?ub22o) ?ub22h (fun K hK => ?ub22s) (AllReadyH.cons (o := ?ub23o) ?ub23h (fun K hK => ?ub23s) AllReadyH.nil)
              case ub22h => rw [List.getElem?_toArray]; rfl
              case ub23h => rw [List.getElem?_toArray]; rfl
              case ub22s =>
                go_simp
                refine hK.out _ _ trivial (fun hHeld => ?_)
                clear hK K
                try simp only [Act.put, List.setIfInBounds_toArray, List.set_cons_zero, List.set_cons_succ]
                refine wpAnyH_ready (rs := [7]) (by kernel_rfl) (by simp) ?_
                refine AllReadyH.cons (o := ?ub24o) ?ub24h (fun K hK => ?ub24s) AllReadyH.nil
                case ub24h => rw [List.getElem?_toArray]; rfl
                have hcA := fun o => (hG.call ((Below.refl U3.heap.size U3).alloc (Nat.le_refl _) o)).cells.2.2.2.2.1
                go_simp
                refine hK.out _ _ trivial (fun hHeld => ?_)
                clear hK K
                try simp only [Act.put, List.setIfInBounds_toArray, List.set_cons_zero, List.set_cons_succ]
                refine wpAnyH_ready (rs := [8]) (by kernel_rfl) (by simp) ?_
                refine AllReadyH.cons (o := ?ub25o) ?ub25h (fun K hK => ?ub25s) AllReadyH.nil
                case ub25h => rw [List.getElem?_toArray]; rfl
                refine Eq.mpr (if_pos ?ux260) ?_
                case ux260 => rfl
                refine hG.append (.tmp 38) (.tmp 44) ?ux261 ?ux262 [(t2, d2, c2), (t3, d3, c3)] ?ux263 ?ux264 ?ux265 ?ux266 ?ux267
                case ux261 => rfl
                case ux262 => rfl
                case ux263 => exact (by intro t ht; simp only [List.mem_cons, List.not_mem_nil, or_false] at ht; rcases ht with rfl | rfl; exact hA2; exact hA3)
                case ux264 => simp
                case ux265 => simp; omega
                case ux266 => rfl
                intro v' U' hN
                obtain ⟨hB2, hR2, hS2⟩ := hN _ rfl
                obtain ⟨gr, ln, cp, rfl⟩ := hR2.slice (by simp)
                have hge := hG.ge
                clear hG hcA hc hN
                have y9 := hB2.is.c9
                have z9 := hB2.froz 9
                refine hK.out _ _ trivial (fun hHeld => ?_)
                clear hK K
                try simp only [Act.put, List.setIfInBounds_toArray, List.set_cons_zero, List.set_cons_succ]
                refine wpAnyH_take (i := 9) (oi := ?ut27o) (v := .pointer (some ⟨y, 9, none⟩)) ?ut27h (by kernel_rfl) (by kernel_rfl) (by kernel_rfl) ?ut27q (Or.inl ⟨?ut27w, ?ut27y⟩) trivial ?ut27r
                case ut27h => rw [List.getElem?_toArray]; rfl
                case ut27q => exact fun _ _ _ h => h
                case ut27w => rfl
                case ut27y =>
                  intro w hSw
                  go_simp
                simp only [Act.put, List.setIfInBounds_toArray, List.set_cons_zero, List.set_cons_succ]
                refine wpAnyH_ready (rs := [10]) (by kernel_rfl) (by simp) ?_
                refine AllReadyH.cons (o := ?ub28o) ?ub28h (fun K hK => ?ub28s) AllReadyH.nil
                case ub28h => rw [List.getElem?_toArray]; rfl
                go_simp
                have hG := Cl.stored hge hB2 hR2 hS2
                clear hB2 hR2 hS2 y9 z9 hge
                refine hK.out _ _ trivial (fun hHeld => ?_)
                clear hK K
                try simp only [Act.put, List.setIfInBounds_toArray, List.set_cons_zero, List.set_cons_succ]
                generalize World.setCell U' ⟨y, 9, none⟩ (.slice (some ⟨gr, 0, none⟩) ln cp) = U'' at hG ⊢
                refine wpAnyH_done (by kernel_rfl) ?_ _
                go_wp2_with fail
                go_roundw
                case rel => exact ⟨q + 1, _, _, _, by go_num, by omega, by simp; omega, by rw [countR_append]; simp only [countR]; omega, by omega, hG⟩
                case measure => simp [intOf]; omega
              case ub23s =>
                have hcA := fun o => (hG.call ((Below.refl U3.heap.size U3).alloc (Nat.le_refl _) o)).cells.2.2.2.2.1
                go_simp
                refine hK.out _ _ trivial (fun hHeld => ?_)
                clear hK K
                try simp only [Act.put, List.setIfInBounds_toArray, List.set_cons_zero, List.set_cons_succ]
                refine wpAnyH_ready (rs := [1]) (by kernel_rfl) (by simp) ?_
                refine AllReadyH.cons (o := ?ub29o) ?ub29h (fun K hK => ?ub29s) AllReadyH.nil
                case ub29h => rw [List.getElem?_toArray]; rfl
                go_simp
                refine hK.out _ _ trivial (fun hHeld => ?_)
                clear hK K
                try simp only [Act.put, List.setIfInBounds_toArray, List.set_cons_zero, List.set_cons_succ]
                refine wpAnyH_ready (rs := [8]) (by kernel_rfl) (by simp) ?_
                refine AllReadyH.cons (o := ?ub30o) ?ub30h (fun K hK => ?ub30s) AllReadyH.nil
                case ub30h => rw [List.getElem?_toArray]; rfl
                refine Eq.mpr (if_pos ?ux310) ?_
                case ux310 => rfl
                refine hG.append (.tmp 38) (.tmp 44) ?ux311 ?ux312 [(t2, d2, c2), (t3, d3, c3)] ?ux313 ?ux314 ?ux315 ?ux316 ?ux317
                case ux311 => rfl
                case ux312 => rfl
                case ux313 => exact (by intro t ht; simp only [List.mem_cons, List.not_mem_nil, or_false] at ht; rcases ht with rfl | rfl; exact hA2; exact hA3)
                case ux314 => simp
                case ux315 => simp; omega
                case ux316 => rfl
                intro v' U' hN
                obtain ⟨hB2, hR2, hS2⟩ := hN _ rfl
                obtain ⟨gr, ln, cp, rfl⟩ := hR2.slice (by simp)
                have hge := hG.ge
                clear hG hcA hc hN
                have y9 := hB2.is.c9
                have z9 := hB2.froz 9
                refine hK.out _ _ trivial (fun hHeld => ?_)
                clear hK K
                try simp only [Act.put, List.setIfInBounds_toArray, List.set_cons_zero, List.set_cons_succ]
                refine wpAnyH_take (i := 9) (oi := ?ut32o) (v := .pointer (some ⟨y, 9, none⟩)) ?ut32h (by kernel_rfl) (by kernel_rfl) (by kernel_rfl) ?ut32q (Or.inl ⟨?ut32w, ?ut32y⟩) trivial ?ut32r
                case ut32h => rw [List.getElem?_toArray]; rfl
                case ut32q => exact fun _ _ _ h => h
                case ut32w => rfl
                case ut32y =>
                  intro w hSw
                  go_simp
                simp only [Act.put, List.setIfInBounds_toArray, List.set_cons_zero, List.set_cons_succ]
                refine wpAnyH_ready (rs := [10]) (by kernel_rfl) (by simp) ?_
                refine AllReadyH.cons (o := ?ub33o) ?ub33h (fun K hK => ?ub33s) AllReadyH.nil
                case ub33h => rw [List.getElem?_toArray]; rfl
                go_simp
                have hG := Cl.stored hge hB2 hR2 hS2
                clear hB2 hR2 hS2 y9 z9 hge
                refine hK.out _ _ trivial (fun hHeld => ?_)
                clear hK K
                try simp only [Act.put, List.setIfInBounds_toArray, List.set_cons_zero, List.set_cons_succ]
                generalize World.setCell U' ⟨y, 9, none⟩ (.slice (some ⟨gr, 0, none⟩) ln cp) = U'' at hG ⊢
                refine wpAnyH_done (by kernel_rfl) ?_ _
                go_wp2_with fail
                go_roundw
                case rel => exact ⟨q + 1, _, _, _, by go_num, by omega, by simp; omega, by rw [countR_append]; simp only [countR]; omega, by omega, hG⟩
                case measure => simp [intOf]; omega
        · have hrq : r ≤ 2 := by omega
          go_upto_region 11 with fail
          refine wp_region_held_drew (S := fun _ => True) (by kernel_rfl) trivial (fun hHeld => ?_)
          replace hG := hG.call (Below.refl _ wr).drew
          generalize World.drew wr = U0 at hG ⊢
          have hc := hG.cells.2.2.2.2.1
          refine wpAnyH_take (i := 0) (oi := ?st1o) (v := .pointer (some ⟨y, 9, none⟩)) ?st1h (by kernel_rfl) (by kernel_rfl) (by kernel_rfl) ?st1q (Or.inl ⟨?st1w, ?st1y⟩) trivial ?st1r
          case st1h => rw [List.getElem?_toArray]; rfl
          case st1q => exact fun _ _ _ h => h
          case st1w => rfl
          case st1y =>
            intro w hSw
            go_simp
          simp only [Act.put, List.setIfInBounds_toArray, List.set_cons_zero, List.set_cons_succ]
          refine wpAnyH_take (i := 2) (oi := ?st2o) (v := .func (.func 113) #[] #[.pointer (some ⟨W.heap.size, 0, none⟩), .pointer (some ⟨W.heap.size + 1, 0, none⟩), .pointer (some ⟨W.heap.size + 1 + 1, 0, none⟩), .pointer (some ⟨W.heap.size + 1 + 1 + 1, 0, none⟩)]) ?st2h (by kernel_rfl) (by kernel_rfl) (by kernel_rfl) ?st2q (Or.inl ⟨?st2w, ?st2y⟩) trivial ?st2r
          case st2h => rw [List.getElem?_toArray]; rfl
          case st2q => exact fun _ _ _ h => h
          case st2w => rfl
          case st2y =>
            intro w hSw
            go_simp
          simp only [Act.put, List.setIfInBounds_toArray, List.set_cons_zero, List.set_cons_succ]
          refine wpAnyH_take (i := 3) (oi := ?st3o) (v := .int .i64 kind) ?st3h (by kernel_rfl) (by kernel_rfl) (by kernel_rfl) ?st3q (Or.inl ⟨?st3w, ?st3y⟩) trivial ?st3r
          case st3h => rw [List.getElem?_toArray]; rfl
          case st3q => exact fun _ _ _ h => h
          case st3w => rfl
          case st3y =>
            intro w hSw
            go_simp
          simp only [Act.put, List.setIfInBounds_toArray, List.set_cons_zero, List.set_cons_succ]
          refine wpAnyH_ready (rs := [1, 4]) (by kernel_rfl) (by simp) ?_
          refine AllReadyH.cons (o := ?sb4o) ?sb4h (fun K hK => ?sb4s) (AllReadyH.cons (o := ?sb5o) ?sb5h (fun K hK => ?sb5s) AllReadyH.nil)
          case sb4h => rw [List.getElem?_toArray]; rfl
          case sb5h => rw [List.getElem?_toArray]; rfl
          case sb4s =>
            go_simp
            refine hK.out _ _ trivial (fun hHeld => ?_)
            clear hK K
            try simp only [Act.put, List.setIfInBounds_toArray, List.set_cons_zero, List.set_cons_succ]
            refine wpAnyH_ready (rs := [4]) (by kernel_rfl) (by simp) ?_
            refine AllReadyH.cons (o := ?sb6o) ?sb6h (fun K hK => ?sb6s) AllReadyH.nil
            case sb6h => rw [List.getElem?_toArray]; rfl
            go_simp
            refine Calls.mono (Tryz.sub113 ih hG.sc (by omega) hn kind ⟨hk1, hk2⟩) ?_
            rintro e U4 ⟨t4, d4, c4, b4, rfl, hX4, hb4, hL, hT⟩
            go_wp2_with fail
            refine hK.out _ _ trivial (fun hHeld => ?_)
            clear hK K
            have hsT := hT.size
            have hA4 := hX4.apart (B := W.heap.size) (y := y) (v := v) hG.sc.size (blk_lt hG.box) (fun k hk => (hG.row.own.lt k hk).2)
            have hn4 := hX4.2
            replace hG := hG.turn hT hL
            have hc := hG.cells.2.2.2.2.1
            clear hT hL hsT hX4
            simp only [Ex.v, Node.v, Node.cells]
            try simp only [Act.put, List.setIfInBounds_toArray, List.set_cons_zero, List.set_cons_succ]
            refine wpAnyH_ready (rs := [5]) (by kernel_rfl) (by simp) ?_
            refine AllReadyH.cons (o := ?sb7o) ?sb7h (fun K hK => ?sb7s) AllReadyH.nil
            case sb7h => rw [List.getElem?_toArray]; rfl
            have hcA := fun o => (hG.call ((Below.refl U4.heap.size U4).alloc (Nat.le_refl _) o)).cells.2.2.2.2.1
            go_simp
            refine hK.out _ _ trivial (fun hHeld => ?_)
            clear hK K
            try simp only [Act.put, List.setIfInBounds_toArray, List.set_cons_zero, List.set_cons_succ]
            refine wpAnyH_ready (rs := [6]) (by kernel_rfl) (by simp) ?_
            refine AllReadyH.cons (o := ?sb8o) ?sb8h (fun K hK => ?sb8s) AllReadyH.nil
            case sb8h => rw [List.getElem?_toArray]; rfl
            refine Eq.mpr (if_pos ?sx90) ?_
            case sx90 => rfl
            refine hG.append (.tmp 49) (.tmp 53) ?sx91 ?sx92 [(t4, d4, c4)] ?sx93 ?sx94 ?sx95 ?sx96 ?sx97
            case sx91 => rfl
            case sx92 => rfl
            case sx93 => exact (by intro t ht; simp only [List.mem_cons, List.not_mem_nil, or_false] at ht; subst ht; exact hA4)
            case sx94 => simp
            case sx95 => simp; omega
            case sx96 => rfl
            intro v' U' hN
            obtain ⟨hB2, hR2, hS2⟩ := hN _ rfl
            obtain ⟨gr, ln, cp, rfl⟩ := hR2.slice (by simp)
            have hge := hG.ge
            clear hG hcA hc hN
            have y9 := hB2.is.c9
            have z9 := hB2.froz 9
            refine hK.out _ _ trivial (fun hHeld => ?_)
            clear hK K
            try simp only [Act.put, List.setIfInBounds_toArray, List.set_cons_zero, List.set_cons_succ]
            refine wpAnyH_take (i := 7) (oi := ?st10o) (v := .pointer (some ⟨y, 9, none⟩)) ?st10h (by kernel_rfl) (by kernel_rfl) (by kernel_rfl) ?st10q (Or.inl ⟨?st10w, ?st10y⟩) trivial ?st10r
            case st10h => rw [List.getElem?_toArray]; rfl
            case st10q => exact fun _ _ _ h => h
            case st10w => rfl
            case st10y =>
              intro w hSw
              go_simp
            simp only [Act.put, List.setIfInBounds_toArray, List.set_cons_zero, List.set_cons_succ]
            refine wpAnyH_ready (rs := [8]) (by kernel_rfl) (by simp) ?_
            refine AllReadyH.cons (o := ?sb11o) ?sb11h (fun K hK => ?sb11s) AllReadyH.nil
            case sb11h => rw [List.getElem?_toArray]; rfl
            go_simp
            have hG := Cl.stored hge hB2 hR2 hS2
            clear hB2 hR2 hS2 y9 z9 hge
            refine hK.out _ _ trivial (fun hHeld => ?_)
            clear hK K
            try simp only [Act.put, List.setIfInBounds_toArray, List.set_cons_zero, List.set_cons_succ]
            generalize World.setCell U' ⟨y, 9, none⟩ (.slice (some ⟨gr, 0, none⟩) ln cp) = U'' at hG ⊢
            refine wpAnyH_done (by kernel_rfl) ?_ _
            have hcc : countR (ts ++ [(t4, d4, c4)]) ≤ 5 * C := by rw [countR_append]; simp only [countR]; omega
            have hll : (ts ++ [(t4, d4, c4)]).length = 2 * q + 1 := by simp; omega
            generalize ts ++ [(t4, d4, c4)] = ts3 at hcc hll hG
            clear hct hts
            have hS := hG.sc
            have hYB := hG.box
            obtain ⟨gr2, cap2, he, hR⟩ := hG.row.tree (C := 5 * C + 1) (by omega) (by omega) ⟨5, 0, 0, 0, 0, ⟨#[]⟩, ⟨#[]⟩, ⟨#[]⟩, false⟩ ⟨Nat.zero_le _, Nat.zero_le _, Nat.zero_le _⟩ (by omega)
            cases he
            clear hll hcc
            obtain ⟨x0, x1, x2, x3, x4, x5, x6, x7, x8, x9, x10, x11, x12⟩ := hYB.is
            obtain ⟨q0, q1, q2, q3⟩ := hS.cells
            clear hYB
            have hF := Out.fin (a := a) (K := 5 * K + 30) hS.turns hS.live hR hS.res (Nat.le_add_right _ _) (by omega) hg (by omega)
            obtain ⟨c0, c1, c2, c3, c4, c5, c6, c7, c8, c9, c10, c11, c12⟩ := hS.res.is
            obtain ⟨f0, f1, f2, f3, f4, f5, f6, f7, f8, f9, f10, f11, f12⟩ := hS.res.frozs
            simp only [Ex.v, Ex.node, Ex.args, List.length_map, Node.v, Node.cells] at hF
            clear hG
            go_wp2_with fail
            exact bodyPost_ret (res_box13 Tryz.results79 rfl hF.2) rfl (hF.1.wide (by omega) (by omega))
          case sb5s =>
            go_simp
            refine Calls.mono (Tryz.sub113 ih hG.sc (by omega) hn kind ⟨hk1, hk2⟩) ?_
            rintro e U4 ⟨t4, d4, c4, b4, rfl, hX4, hb4, hL, hT⟩
            go_wp2_with fail
            refine hK.out _ _ trivial (fun hHeld => ?_)
            clear hK K
            have hsT := hT.size
            have hA4 := hX4.apart (B := W.heap.size) (y := y) (v := v) hG.sc.size (blk_lt hG.box) (fun k hk => (hG.row.own.lt k hk).2)
            have hn4 := hX4.2
            replace hG := hG.turn hT hL
            have hc := hG.cells.2.2.2.2.1
            clear hT hL hsT hX4
            simp only [Ex.v, Node.v, Node.cells]
            try simp only [Act.put, List.setIfInBounds_toArray, List.set_cons_zero, List.set_cons_succ]
            refine wpAnyH_ready (rs := [1, 5]) (by kernel_rfl) (by simp) ?_
            refine AllReadyH.cons (o := ?sb12o) ?sb12h (fun K hK => ?sb12s) (AllReadyH.cons (o := ?sb13o) ?sb13h (fun K hK => ?sb13s) AllReadyH.nil)
            case sb12h => rw [List.getElem?_toArray]; rfl
            case sb13h => rw [List.getElem?_toArray]; rfl
            case sb12s =>
              go_simp
              refine hK.out _ _ trivial (fun hHeld => ?_)
              clear hK K
              try simp only [Act.put, List.setIfInBounds_toArray, List.set_cons_zero, List.set_cons_succ]
              refine wpAnyH_ready (rs := [5]) (by kernel_rfl) (by simp) ?_
              refine AllReadyH.cons (o := ?sb14o) ?sb14h (fun K hK => ?sb14s) AllReadyH.nil
              case sb14h => rw [List.getElem?_toArray]; rfl
              have hcA := fun o => (hG.call ((Below.refl U4.heap.size U4).alloc (Nat.le_refl _) o)).cells.2.2.2.2.1
              go_simp
              refine hK.out _ _ trivial (fun hHeld => ?_)
              clear hK K
              try simp only [Act.put, List.setIfInBounds_toArray, List.set_cons_zero, List.set_cons_succ]
              refine wpAnyH_ready (rs := [6]) (by kernel_rfl) (by simp) ?_
              refine AllReadyH.cons (o := ?sb15o) ?sb15h (fun K hK => ?sb15s) AllReadyH.nil
              case sb15h => rw [List.getElem?_toArray]; rfl
              refine Eq.mpr (if_pos ?sx160) ?_
              case sx160 => rfl
              refine hG.append (.tmp 49) (.tmp 53) ?sx161 ?sx162 [(t4, d4, c4)] ?sx163 ?sx164 ?sx165 ?sx166 ?sx167
              case sx161 => rfl
              case sx162 => rfl
              case sx163 => exact (by intro t ht; simp only [List.mem_cons, List.not_mem_nil, or_false] at ht; subst ht; exact hA4)
              case sx164 => simp
              case sx165 => simp; omega
              case sx166 => rfl
              intro v' U' hN
              obtain ⟨hB2, hR2, hS2⟩ := hN _ rfl
              obtain ⟨gr, ln, cp, rfl⟩ := hR2.slice (by simp)
              have hge := hG.ge
              clear hG hcA hc hN
              have y9 := hB2.is.c9
              have z9 := hB2.froz 9
              refine hK.out _ _ trivial (fun hHeld => ?_)
              clear hK K
              try simp only [Act.put, List.setIfInBounds_toArray, List.set_cons_zero, List.set_cons_succ]
              refine wpAnyH_take (i := 7) (oi := ?st17o) (v := .pointer (some ⟨y, 9, none⟩)) ?st17h (by kernel_rfl) (by kernel_rfl) (by kernel_rfl) ?st17q (Or.inl ⟨?st17w, ?st17y⟩) trivial ?st17r
              case st17h => rw [List.getElem?_toArray]; rfl
              case st17q => exact fun _ _ _ h => h
              case st17w => rfl
              case st17y =>
                intro w hSw
                go_simp
              simp only [Act.put, List.setIfInBounds_toArray, List.set_cons_zero, List.set_cons_succ]
              refine wpAnyH_ready (rs := [8]) (by kernel_rfl) (by simp) ?_
              refine AllReadyH.cons (o := ?sb18o) ?sb18h (fun K hK => ?sb18s) AllReadyH.nil
              case sb18h => rw [List.getElem?_toArray]; rfl
              go_simp
              have hG := Cl.stored hge hB2 hR2 hS2
              clear hB2 hR2 hS2 y9 z9 hge
              refine hK.out _ _ trivial (fun hHeld => ?_)
              clear hK K
              try simp only [Act.put, List.setIfInBounds_toArray, List.set_cons_zero, List.set_cons_succ]
              generalize World.setCell U' ⟨y, 9, none⟩ (.slice (some ⟨gr, 0, none⟩) ln cp) = U'' at hG ⊢
              refine wpAnyH_done (by kernel_rfl) ?_ _
              have hcc : countR (ts ++ [(t4, d4, c4)]) ≤ 5 * C := by rw [countR_append]; simp only [countR]; omega
              have hll : (ts ++ [(t4, d4, c4)]).length = 2 * q + 1 := by simp; omega
              generalize ts ++ [(t4, d4, c4)] = ts3 at hcc hll hG
              clear hct hts
              have hS := hG.sc
              have hYB := hG.box
              obtain ⟨gr2, cap2, he, hR⟩ := hG.row.tree (C := 5 * C + 1) (by omega) (by omega) ⟨5, 0, 0, 0, 0, ⟨#[]⟩, ⟨#[]⟩, ⟨#[]⟩, false⟩ ⟨Nat.zero_le _, Nat.zero_le _, Nat.zero_le _⟩ (by omega)
              cases he
              clear hll hcc
              obtain ⟨x0, x1, x2, x3, x4, x5, x6, x7, x8, x9, x10, x11, x12⟩ := hYB.is
              obtain ⟨q0, q1, q2, q3⟩ := hS.cells
              clear hYB
              have hF := Out.fin (a := a) (K := 5 * K + 30) hS.turns hS.live hR hS.res (Nat.le_add_right _ _) (by omega) hg (by omega)
              obtain ⟨c0, c1, c2, c3, c4, c5, c6, c7, c8, c9, c10, c11, c12⟩ := hS.res.is
              obtain ⟨f0, f1, f2, f3, f4, f5, f6, f7, f8, f9, f10, f11, f12⟩ := hS.res.frozs
              simp only [Ex.v, Ex.node, Ex.args, List.length_map, Node.v, Node.cells] at hF
              clear hG
              go_wp2_with fail
              exact bodyPost_ret (res_box13 Tryz.results79 rfl hF.2) rfl (hF.1.wide (by omega) (by omega))
            case sb13s =>
              have hcA := fun o => (hG.call ((Below.refl U4.heap.size U4).alloc (Nat.le_refl _) o)).cells.2.2.2.2.1
              go_simp
              refine hK.out _ _ trivial (fun hHeld => ?_)
              clear hK K
              try simp only [Act.put, List.setIfInBounds_toArray, List.set_cons_zero, List.set_cons_succ]
              refine wpAnyH_ready (rs := [1]) (by kernel_rfl) (by simp) ?_
              refine AllReadyH.cons (o := ?sb19o) ?sb19h (fun K hK => ?sb19s) AllReadyH.nil
              case sb19h => rw [List.getElem?_toArray]; rfl
              go_simp
              refine hK.out _ _ trivial (fun hHeld => ?_)
              clear hK K
              try simp only [Act.put, List.setIfInBounds_toArray, List.set_cons_zero, List.set_cons_succ]
              refine wpAnyH_ready (rs := [6]) (by kernel_rfl) (by simp) ?_
              refine AllReadyH.cons (o := ?sb20o) ?sb20h (fun K hK => ?sb20s) AllReadyH.nil
              case sb20h => rw [List.getElem?_toArray]; rfl
              refine Eq.mpr (if_pos ?sx210) ?_
              case sx210 => rfl
              refine hG.append (.tmp 49) (.tmp 53) ?sx211 ?sx212 [(t4, d4, c4)] ?sx213 ?sx214 ?sx215 ?sx216 ?sx217
              case sx211 => rfl
              case sx212 => rfl
              case sx213 => exact (by intro t ht; simp only [List.mem_cons, List.not_mem_nil, or_false] at ht; subst ht; exact hA4)
              case sx214 => simp
              case sx215 => simp; omega
              case sx216 => rfl
              intro v' U' hN
              obtain ⟨hB2, hR2, hS2⟩ := hN _ rfl
              obtain ⟨gr, ln, cp, rfl⟩ := hR2.slice (by simp)
              have hge := hG.ge
              clear hG hcA hc hN
              have y9 := hB2.is.c9
              have z9 := hB2.froz 9
              refine hK.out _ _ trivial (fun hHeld => ?_)
              clear hK K
              try simp only [Act.put, List.setIfInBounds_toArray, List.set_cons_zero, List.set_cons_succ]
              refine wpAnyH_take (i := 7) (oi := ?st22o) (v := .pointer (some ⟨y, 9, none⟩)) ?st22h (by kernel_rfl) (by kernel_rfl) (by kernel_rfl) ?st22q (Or.inl ⟨?st22w, ?st22y⟩) trivial ?st22r
              case st22h => rw [List.getElem?_toArray]; rfl
              case st22q => exact fun _ _ _ h => h
              case st22w => rfl
              case st22y =>
                intro w hSw
                go_simp
              simp only [Act.put, List.setIfInBounds_toArray, List.set_cons_zero, List.set_cons_succ]
              refine wpAnyH_ready (rs := [8]) (by kernel_rfl) (by simp) ?_
              refine AllReadyH.cons (o := ?sb23o) ?sb23h (fun K hK => ?sb23s) AllReadyH.nil
              case sb23h => rw [List.getElem?_toArray]; rfl
              go_simp
              have hG := Cl.stored hge hB2 hR2 hS2
              clear hB2 hR2 hS2 y9 z9 hge
              refine hK.out _ _ trivial (fun hHeld => ?_)
              clear hK K
              try simp only [Act.put, List.setIfInBounds_toArray, List.set_cons_zero, List.set_cons_succ]
              generalize World.setCell U' ⟨y, 9, none⟩ (.slice (some ⟨gr, 0, none⟩) ln cp) = U'' at hG ⊢
              refine wpAnyH_done (by kernel_rfl) ?_ _
              have hcc : countR (ts ++ [(t4, d4, c4)]) ≤ 5 * C := by rw [countR_append]; simp only [countR]; omega
              have hll : (ts ++ [(t4, d4, c4)]).length = 2 * q + 1 := by simp; omega
              generalize ts ++ [(t4, d4, c4)] = ts3 at hcc hll hG
              clear hct hts
              have hS := hG.sc
              have hYB := hG.box
              obtain ⟨gr2, cap2, he, hR⟩ := hG.row.tree (C := 5 * C + 1) (by omega) (by omega) ⟨5, 0, 0, 0, 0, ⟨#[]⟩, ⟨#[]⟩, ⟨#[]⟩, false⟩ ⟨Nat.zero_le _, Nat.zero_le _, Nat.zero_le _⟩ (by omega)
              cases he
              clear hll hcc
              obtain ⟨x0, x1, x2, x3, x4, x5, x6, x7, x8, x9, x10, x11, x12⟩ := hYB.is
              obtain ⟨q0, q1, q2, q3⟩ := hS.cells
              clear hYB
              have hF := Out.fin (a := a) (K := 5 * K + 30) hS.turns hS.live hR hS.res (Nat.le_add_right _ _) (by omega) hg (by omega)
              obtain ⟨c0, c1, c2, c3, c4, c5, c6, c7, c8, c9, c10, c11, c12⟩ := hS.res.is
              obtain ⟨f0, f1, f2, f3, f4, f5, f6, f7, f8, f9, f10, f11, f12⟩ := hS.res.frozs
              simp only [Ex.v, Ex.node, Ex.args, List.length_map, Node.v, Node.cells] at hF
              clear hG
              go_wp2_with fail
              exact bodyPost_ret (res_box13 Tryz.results79 rfl hF.2) rfl (hF.1.wide (by omega) (by omega))
    by_cases r1 : r = 1
    · subst r1
      go_wp2_with fail
      refine Calls.mono (Tryz.sub113 ih hS (by omega) hn kind ⟨hk1, hk2⟩) ?_
      rintro e V3 ⟨t1, d1, c1, b1, rfl, hX1, hb1, hL, hT⟩
      replace hX1 := hX1.less (Nat.le_refl _) hS.size
      replace hS := hS.turn hT hL
      obtain ⟨q0, q1, q2, q3⟩ := hS.cells
      clear hL hT
      simp only [Ex.v, Node.v, Node.cells]
      go_wp2_with fail
      refine Calls.mono (Tryz.sub113 ih hS (by omega) hn kind ⟨hk1, hk2⟩) ?_
      rintro e V4 ⟨t2, d2, c2, b2, rfl, hX2, hb2, hL, hT⟩
      replace hX2 := hX2.less (Nat.le_refl _) hS.size
      replace hX1 := hX1.turn hT (by have := hS.size; omega)
      replace hS := hS.turn hT hL
      obtain ⟨q0, q1, q2, q3⟩ := hS.cells
      clear hL hT
      simp only [Ex.v, Node.v, Node.cells]
      go_wp2_with fail
      have hR := TreeAt.row2 (opX 24) (opX_ok _) hX1 hX2 (Nat.le_refl _) hS.size
      have hAl := (Below.refl (V4).heap.size V4).alloc (Nat.le_refl _) (.cells (rowC [(t1, d1, c1), (t2, d2, c2)]).toArray 57)
      replace hS := hS.call hAl
      clear hX1 hX2 hAl
      refine (Tryz.oper 24 _ 2 2 _).mono ?_
      rintro e V5 ⟨rfl, hbO⟩
      replace hR := hR.call hbO
      replace hS := hS.call hbO
      obtain ⟨q0, q1, q2, q3⟩ := hS.cells
      simp only [Node.v, Node.cells]
      clear hbO
      have hF := Out.fin (a := a) (K := 5 * K + 30) hS.turns hS.live hR hS.res (Nat.le_add_right _ _) (by omega) hg (by omega)
      obtain ⟨c0, c1, c2, c3, c4, c5, c6, c7, c8, c9, c10, c11, c12⟩ := hS.res.is
      obtain ⟨f0, f1, f2, f3, f4, f5, f6, f7, f8, f9, f10, f11, f12⟩ := hS.res.frozs
      simp only [Ex.v, Ex.node, Ex.args, List.length_cons, List.length_nil, Node.v, Node.cells, opX] at hF
      go_wp2_with fail
      exact bodyPost_ret (res_box13 Tryz.results79 rfl hF.2) rfl (hF.1.wide (by omega) (by omega))
    have e0 : (r == 0) = false := by simpa using r0
    have e1 : (r == 1) = false := by simpa using r1
    by_cases r2 : r = 2
    · subst r2
      go_wp2_with fail
      refine (Tryz.kindL hS.live (by omega)).mono ?_
      rintro e V3 ⟨k, hkk1, hkk2, rfl, hL, hT⟩
      replace hS := hS.turn hT hL
      obtain ⟨q0, q1, q2, q3⟩ := hS.cells
      clear hL hT
      go_wp2_with fail
      refine (Tryz.canCast _ _ _).mono ?_
      rintro e w9 ⟨rfl, rfl⟩
      generalize canB k kind = cb
      cases cb with
      | true =>
        go_wp2_with fail
        refine Calls.mono (Tryz.sub113 ih hS (by omega) hn k ⟨hkk1, hkk2⟩) ?_
        rintro e V4 ⟨t1, d1, c1, b1, rfl, hX1, hb1, hL, hT⟩
        replace hX1 := hX1.less (Nat.le_refl _) hS.size
        replace hS := hS.turn hT hL
        obtain ⟨q0, q1, q2, q3⟩ := hS.cells
        clear hL hT
        simp only [Ex.v, Node.v, Node.cells]
        go_wp2_with fail
        have hR := TreeAt.row1 (opX 27) (opX_ok _) hX1 (Nat.le_refl _) hS.size
        have hAl := (Below.refl (V4).heap.size V4).alloc (Nat.le_refl _) (.cells (rowC [(t1, d1, c1)]).toArray 57)
        replace hS := hS.call hAl
        clear hX1 hAl
        refine (Tryz.oper 27 _ 1 1 _).mono ?_
        rintro e V5 ⟨rfl, hbO⟩
        replace hR := hR.call hbO
        replace hS := hS.call hbO
        obtain ⟨q0, q1, q2, q3⟩ := hS.cells
        simp only [Node.v, Node.cells]
        clear hbO
        have hY := heap_alloc_new V5 (.cells #[.int .i64 4, .int .i64 27, .int .i64 0, .int .i64 0, .int .i64 0, .string ⟨#[]⟩, .string ⟨#[]⟩, .string ⟨#[]⟩, .bool false, .slice (some ⟨(V4).heap.size, 0, none⟩) 1 1, .slice none 0 0, .slice none 0 0, .slice none 0 0] 57)
        have hAl := (Below.refl (V5).heap.size V5).alloc (Nat.le_refl _) (.cells #[.int .i64 4, .int .i64 27, .int .i64 0, .int .i64 0, .int .i64 0, .string ⟨#[]⟩, .string ⟨#[]⟩, .string ⟨#[]⟩, .bool false, .slice (some ⟨(V4).heap.size, 0, none⟩) 1 1, .slice none 0 0, .slice none 0 0, .slice none 0 0] 57)
        have hV := hS.size
        have hPg : P.g < (V5).heap.size := hS.live.lt
        have hsA := ex_alloc_size V5 (.cells #[.int .i64 4, .int .i64 27, .int .i64 0, .int .i64 0, .int .i64 0, .string ⟨#[]⟩, .string ⟨#[]⟩, .string ⟨#[]⟩, .bool false, .slice (some ⟨(V4).heap.size, 0, none⟩) 1 1, .slice none 0 0, .slice none 0 0, .slice none 0 0] 57)
        replace hS := hS.call hAl
        obtain ⟨q0, q1, q2, q3⟩ := hS.cells
        clear hAl
        go_upto_region 19 with fail
        have hkA : ∀ p, p < (V5).heap.size → p ≠ P.g → (World.alloc V5 (.cells #[.int .i64 4, .int .i64 27, .int .i64 0, .int .i64 0, .int .i64 0, .string ⟨#[]⟩, .string ⟨#[]⟩, .string ⟨#[]⟩, .bool false, .slice (some ⟨(V4).heap.size, 0, none⟩) 1 1, .slice none 0 0, .slice none 0 0, .slice none 0 0] 57)).heap[p]? = (V5).heap[p]? := fun p hp _ => heap_alloc_old _ _ hp
        generalize World.alloc V5 (.cells #[.int .i64 4, .int .i64 27, .int .i64 0, .int .i64 0, .int .i64 0, .string ⟨#[]⟩, .string ⟨#[]⟩, .string ⟨#[]⟩, .bool false, .slice (some ⟨(V4).heap.size, 0, none⟩) 1 1, .slice none 0 0, .slice none 0 0, .slice none 0 0] 57) = V6 at hS hY hkA hsA q0 q1 q2 q3 ⊢
        have hYB : Box V6 (V5).heap.size ⟨4, 27, 0, 0, 0, ⟨#[]⟩, ⟨#[]⟩, ⟨#[]⟩, false⟩ (.slice (some ⟨(V4).heap.size, 0, none⟩) 1 1) := hY
        have y2 := hYB.is.c2
        have z2 := hYB.froz 2
        go_upto_region 20 with fail
        have hY2 := block_set (i := 2) (v := .int .i64 kind) hY
        replace hS := hS.set (b := (V5).heap.size) (i := 2) (v := .int .i64 kind) (by omega)
        obtain ⟨q0, q1, q2, q3⟩ := hS.cells
        have hk2 : ∀ p, p < (V5).heap.size → p ≠ P.g → (World.setCell V6 ⟨(V5).heap.size, 2, none⟩ (.int .i64 kind)).heap[p]? = (V5).heap[p]? := fun p hp hpg => (block_set_ne (by omega)).trans (hkA p hp hpg)
        have hs2 : (V5).heap.size ≤ (World.setCell V6 ⟨(V5).heap.size, 2, none⟩ (.int .i64 kind)).heap.size := by rw [size_set]; have := blk_lt hY; omega
        generalize World.setCell V6 ⟨(V5).heap.size, 2, none⟩ (.int .i64 kind) = V7 at hS hY2 hk2 hs2 q0 q1 q2 q3 ⊢
        clear hY hYB y2 z2 hkA
        replace hR := (hR.via hs2 (fun p h1 h2 => hk2 p h2 (by omega))).node (y := ⟨4, 27, kind, 0, 0, ⟨#[]⟩, ⟨#[]⟩, ⟨#[]⟩, false⟩) ⟨Nat.zero_le _, Nat.zero_le _, Nat.zero_le _⟩
        have hYB : Box V7 (V5).heap.size ⟨4, 27, kind, 0, 0, ⟨#[]⟩, ⟨#[]⟩, ⟨#[]⟩, false⟩ (.slice (some ⟨(V4).heap.size, 0, none⟩) 1 1) := hY2
        obtain ⟨x0, x1, x2, x3, x4, x5, x6, x7, x8, x9, x10, x11, x12⟩ := hYB.is
        clear hY2 hk2 hs2
        have hF := Out.fin (a := a) (K := 5 * K + 30) hS.turns hS.live hR hS.res (Nat.le_add_right _ _) (by omega) hg (by omega)
        obtain ⟨c0, c1, c2, c3, c4, c5, c6, c7, c8, c9, c10, c11, c12⟩ := hS.res.is
        obtain ⟨f0, f1, f2, f3, f4, f5, f6, f7, f8, f9, f10, f11, f12⟩ := hS.res.frozs
        simp only [Ex.v, Ex.node, Ex.args, List.length_cons, List.length_nil, Node.v, Node.cells] at hF
        go_wp2_with fail
        exact bodyPost_ret (res_box13 Tryz.results79 rfl hF.2) rfl (hF.1.wide (by omega) (by omega))
      | false =>
        obtain rfl | rfl | rfl | rfl : kind = 1 ∨ kind = 2 ∨ kind = 3 ∨ kind = 4 := by omega
        · go_wp2_with fail
          refine Calls.mono (Tryz.truth ih hn hK hC hM hS.gen (by omega)) ?_
          rintro e V4 ⟨t, d, c, b, rfl, hX, hb, hL, hT⟩
          have hR := hX.less (D := 5 * C + 1) (by omega) hS.size
          replace hS := hS.turn hT hL
          clear hX hT hL
          have hF := Out.fin (a := a) (K := 5 * K + 30) hS.turns hS.live hR hS.res (Nat.le_add_right _ _) (by omega) hg (by omega)
          obtain ⟨c0, c1, c2, c3, c4, c5, c6, c7, c8, c9, c10, c11, c12⟩ := hS.res.is
          obtain ⟨f0, f1, f2, f3, f4, f5, f6, f7, f8, f9, f10, f11, f12⟩ := hS.res.frozs
          simp only [Ex.v, Node.v, Node.cells] at hF ⊢
          go_wp2_with fail
          exact bodyPost_ret (res_box13 Tryz.results79 rfl hF.2) rfl hF.1
        · go_wp2_with fail
          refine Calls.mono (Tryz.number ih hn hK hC hM hS.gen (by omega)) ?_
          rintro e V4 ⟨t, d, c, b, rfl, hX, hb, hL, hT⟩
          have hR := hX.less (D := 5 * C + 1) (by omega) hS.size
          replace hS := hS.turn hT hL
          clear hX hT hL
          have hF := Out.fin (a := a) (K := 5 * K + 30) hS.turns hS.live hR hS.res (Nat.le_add_right _ _) (by omega) hg (by omega)
          obtain ⟨c0, c1, c2, c3, c4, c5, c6, c7, c8, c9, c10, c11, c12⟩ := hS.res.is
          obtain ⟨f0, f1, f2, f3, f4, f5, f6, f7, f8, f9, f10, f11, f12⟩ := hS.res.frozs
          simp only [Ex.v, Node.v, Node.cells] at hF ⊢
          go_wp2_with fail
          exact bodyPost_ret (res_box13 Tryz.results79 rfl hF.2) rfl hF.1
        · go_wp2_with fail
          refine (Tryz.nextL hS.live (by omega) 4 (by omega) (by omega)).mono ?_
          rintro e V4 ⟨r', hr5, hr6, rfl, hL, hT⟩
          replace hS := hS.turn hT hL
          obtain ⟨q0, q1, q2, q3⟩ := hS.cells
          clear hL hT
          by_cases s0 : r' = 0
          · subst s0
            go_wp2_with fail
            have hbp := heap_alloc_new V4 (.cells #[.int .i64 20, .int .i64 21] 3)
            have hAl := (Below.refl (V4).heap.size V4).alloc (Nat.le_refl _) (.cells #[.int .i64 20, .int .i64 21] 3)
            have hnp : (V4).heap.size ≠ P.g := by have := hS.live.lt; omega
            replace hS := hS.call hAl
            refine (Tryz.pickL hS.live (by omega) _ _ [20, 21] rfl hnp hbp (by simp) (by simp)).mono ?_
            rintro e V5 ⟨z, hz, rfl, hL, hT⟩
            replace hS := hS.turn hT hL
            obtain ⟨q0, q1, q2, q3⟩ := hS.cells
            clear hL hT hbp hAl hnp
            go_wp2_with fail
            refine Calls.mono (Tryz.sub113 ih hS (by omega) hn 3 (by omega)) ?_
            rintro e V6 ⟨t1, d1, c1, b1, rfl, hX1, hb1, hL, hT⟩
            replace hX1 := hX1.less (Nat.le_refl _) hS.size
            replace hS := hS.turn hT hL
            obtain ⟨q0, q1, q2, q3⟩ := hS.cells
            clear hL hT
            simp only [Ex.v, Node.v, Node.cells]
            go_wp2_with fail
            have hR := TreeAt.row1 (opX z) (opX_ok _) hX1 (Nat.le_refl _) hS.size
            have hAl := (Below.refl (V6).heap.size V6).alloc (Nat.le_refl _) (.cells (rowC [(t1, d1, c1)]).toArray 57)
            replace hS := hS.call hAl
            clear hX1 hAl
            refine (Tryz.oper z _ 1 1 _).mono ?_
            rintro e V7 ⟨rfl, hbO⟩
            replace hR := hR.call hbO
            replace hS := hS.call hbO
            obtain ⟨q0, q1, q2, q3⟩ := hS.cells
            simp only [Node.v, Node.cells]
            clear hbO
            have hF := Out.fin (a := a) (K := 5 * K + 30) hS.turns hS.live hR hS.res (Nat.le_add_right _ _) (by omega) hg (by omega)
            obtain ⟨c0, c1, c2, c3, c4, c5, c6, c7, c8, c9, c10, c11, c12⟩ := hS.res.is
            obtain ⟨f0, f1, f2, f3, f4, f5, f6, f7, f8, f9, f10, f11, f12⟩ := hS.res.frozs
            simp only [Ex.v, Ex.node, Ex.args, List.length_cons, List.length_nil, Node.v, Node.cells, opX] at hF
            go_wp2_with fail
            exact bodyPost_ret (res_box13 Tryz.results79 rfl hF.2) rfl (hF.1.wide (by omega) (by omega))
          · by_cases s1 : r' = 1
            · subst s1
              go_wp2_with fail
              refine Calls.mono (Tryz.sub113 ih hS (by omega) hn 3 (by omega)) ?_
              rintro e V5 ⟨t1, d1, c1, b1, rfl, hX1, hb1, hL, hT⟩
              replace hX1 := hX1.less (Nat.le_refl _) hS.size
              replace hS := hS.turn hT hL
              obtain ⟨q0, q1, q2, q3⟩ := hS.cells
              clear hL hT
              simp only [Ex.v, Node.v, Node.cells]
              go_wp2_with fail
              refine Calls.mono (Tryz.sub113 ih hS (by omega) hn 2 (by omega)) ?_
              rintro e V6 ⟨t2, d2, c2, b2, rfl, hX2, hb2, hL, hT⟩
              replace hX2 := hX2.less (Nat.le_refl _) hS.size
              replace hX1 := hX1.turn hT (by have := hS.size; omega)
              replace hS := hS.turn hT hL
              obtain ⟨q0, q1, q2, q3⟩ := hS.cells
              clear hL hT
              simp only [Ex.v, Node.v, Node.cells]
              go_wp2_with fail
              refine Calls.mono (Tryz.sub113 ih hS (by omega) hn 2 (by omega)) ?_
              rintro e V7 ⟨t3, d3, c3, b3, rfl, hX3, hb3, hL, hT⟩
              replace hX3 := hX3.less (Nat.le_refl _) hS.size
              replace hX1 := hX1.turn hT (by have := hS.size; omega)
              replace hX2 := hX2.turn hT (by have := hS.size; omega)
              replace hS := hS.turn hT hL
              obtain ⟨q0, q1, q2, q3⟩ := hS.cells
              clear hL hT
              simp only [Ex.v, Node.v, Node.cells]
              go_wp2_with fail
              have hR := TreeAt.row3 (opX 23) (opX_ok _) hX1 hX2 hX3 (Nat.le_refl _) hS.size
              have hAl := (Below.refl (V7).heap.size V7).alloc (Nat.le_refl _) (.cells (rowC [(t1, d1, c1), (t2, d2, c2), (t3, d3, c3)]).toArray 57)
              replace hS := hS.call hAl
              clear hX1 hX2 hX3 hAl
              refine (Tryz.oper 23 _ 3 3 _).mono ?_
              rintro e V8 ⟨rfl, hbO⟩
              replace hR := hR.call hbO
              replace hS := hS.call hbO
              obtain ⟨q0, q1, q2, q3⟩ := hS.cells
              simp only [Node.v, Node.cells]
              clear hbO
              have hF := Out.fin (a := a) (K := 5 * K + 30) hS.turns hS.live hR hS.res (Nat.le_add_right _ _) (by omega) hg (by omega)
              obtain ⟨c0, c1, c2, c3, c4, c5, c6, c7, c8, c9, c10, c11, c12⟩ := hS.res.is
              obtain ⟨f0, f1, f2, f3, f4, f5, f6, f7, f8, f9, f10, f11, f12⟩ := hS.res.frozs
              simp only [Ex.v, Ex.node, Ex.args, List.length_cons, List.length_nil, Node.v, Node.cells, opX] at hF
              go_wp2_with fail
              exact bodyPost_ret (res_box13 Tryz.results79 rfl hF.2) rfl (hF.1.wide (by omega) (by omega))
            · have e0 : (r' == 0) = false := by simpa using s0
              have e1 : (r' == 1) = false := by simpa using s1
              go_wp2_with fail
              refine Calls.mono (Tryz.sub113 ih hS (by omega) hn 3 (by omega)) ?_
              rintro e V5 ⟨t1, d1, c1, b1, rfl, hX1, hb1, hL, hT⟩
              replace hX1 := hX1.less (Nat.le_refl _) hS.size
              replace hS := hS.turn hT hL
              obtain ⟨q0, q1, q2, q3⟩ := hS.cells
              clear hL hT
              simp only [Ex.v, Node.v, Node.cells]
              go_wp2_with fail
              refine Calls.mono (Tryz.sub113 ih hS (by omega) hn 3 (by omega)) ?_
              rintro e V6 ⟨t2, d2, c2, b2, rfl, hX2, hb2, hL, hT⟩
              replace hX2 := hX2.less (Nat.le_refl _) hS.size
              replace hX1 := hX1.turn hT (by have := hS.size; omega)
              replace hS := hS.turn hT hL
              obtain ⟨q0, q1, q2, q3⟩ := hS.cells
              clear hL hT
              simp only [Ex.v, Node.v, Node.cells]
              go_wp2_with fail
              have hR := TreeAt.row2 (opX 18) (opX_ok _) hX1 hX2 (Nat.le_refl _) hS.size
              have hAl := (Below.refl (V6).heap.size V6).alloc (Nat.le_refl _) (.cells (rowC [(t1, d1, c1), (t2, d2, c2)]).toArray 57)
              replace hS := hS.call hAl
              clear hX1 hX2 hAl
              refine (Tryz.oper 18 _ 2 2 _).mono ?_
              rintro e V7 ⟨rfl, hbO⟩
              replace hR := hR.call hbO
              replace hS := hS.call hbO
              obtain ⟨q0, q1, q2, q3⟩ := hS.cells
              simp only [Node.v, Node.cells]
              clear hbO
              have hF := Out.fin (a := a) (K := 5 * K + 30) hS.turns hS.live hR hS.res (Nat.le_add_right _ _) (by omega) hg (by omega)
              obtain ⟨c0, c1, c2, c3, c4, c5, c6, c7, c8, c9, c10, c11, c12⟩ := hS.res.is
              obtain ⟨f0, f1, f2, f3, f4, f5, f6, f7, f8, f9, f10, f11, f12⟩ := hS.res.frozs
              simp only [Ex.v, Ex.node, Ex.args, List.length_cons, List.length_nil, Node.v, Node.cells, opX] at hF
              go_wp2_with fail
              exact bodyPost_ret (res_box13 Tryz.results79 rfl hF.2) rfl (hF.1.wide (by omega) (by omega))
        · go_wp2_with fail
          refine (Tryz.flipL hS.live (by omega) 2 (by omega) (by omega)).mono ?_
          rintro e V4 ⟨fl, rfl, hL, hT⟩
          replace hS := hS.turn hT hL
          obtain ⟨q0, q1, q2, q3⟩ := hS.cells
          clear hL hT
          cases fl with
          | true =>
            go_wp2_with fail
            have hbp := heap_alloc_new V4 (.cells #[.int .i64 12, .int .i64 13] 3)
            have hAl := (Below.refl (V4).heap.size V4).alloc (Nat.le_refl _) (.cells #[.int .i64 12, .int .i64 13] 3)
            have hnp : (V4).heap.size ≠ P.g := by have := hS.live.lt; omega
            replace hS := hS.call hAl
            refine (Tryz.pickL hS.live (by omega) _ _ [12, 13] rfl hnp hbp (by simp) (by simp)).mono ?_
            rintro e V5 ⟨z, hz, rfl, hL, hT⟩
            replace hS := hS.turn hT hL
            obtain ⟨q0, q1, q2, q3⟩ := hS.cells
            clear hL hT hbp hAl hnp
            go_wp2_with fail
            refine Calls.mono (Tryz.sub113 ih hS (by omega) hn 4 (by omega)) ?_
            rintro e V6 ⟨t1, d1, c1, b1, rfl, hX1, hb1, hL, hT⟩
            replace hX1 := hX1.less (Nat.le_refl _) hS.size
            replace hS := hS.turn hT hL
            obtain ⟨q0, q1, q2, q3⟩ := hS.cells
            clear hL hT
            simp only [Ex.v, Node.v, Node.cells]
            go_wp2_with fail
            refine Calls.mono (Tryz.sub113 ih hS (by omega) hn 2 (by omega)) ?_
            rintro e V7 ⟨t2, d2, c2, b2, rfl, hX2, hb2, hL, hT⟩
            replace hX2 := hX2.less (Nat.le_refl _) hS.size
            replace hX1 := hX1.turn hT (by have := hS.size; omega)
            replace hS := hS.turn hT hL
            obtain ⟨q0, q1, q2, q3⟩ := hS.cells
            clear hL hT
            simp only [Ex.v, Node.v, Node.cells]
            go_wp2_with fail
            have hR := TreeAt.row2 (opX z) (opX_ok _) hX1 hX2 (Nat.le_refl _) hS.size
            have hAl := (Below.refl (V7).heap.size V7).alloc (Nat.le_refl _) (.cells (rowC [(t1, d1, c1), (t2, d2, c2)]).toArray 57)
            replace hS := hS.call hAl
            clear hX1 hX2 hAl
            refine (Tryz.oper z _ 2 2 _).mono ?_
            rintro e V8 ⟨rfl, hbO⟩
            replace hR := hR.call hbO
            replace hS := hS.call hbO
            obtain ⟨q0, q1, q2, q3⟩ := hS.cells
            simp only [Node.v, Node.cells]
            clear hbO
            have hF := Out.fin (a := a) (K := 5 * K + 30) hS.turns hS.live hR hS.res (Nat.le_add_right _ _) (by omega) hg (by omega)
            obtain ⟨c0, c1, c2, c3, c4, c5, c6, c7, c8, c9, c10, c11, c12⟩ := hS.res.is
            obtain ⟨f0, f1, f2, f3, f4, f5, f6, f7, f8, f9, f10, f11, f12⟩ := hS.res.frozs
            simp only [Ex.v, Ex.node, Ex.args, List.length_cons, List.length_nil, Node.v, Node.cells, opX] at hF
            go_wp2_with fail
            exact bodyPost_ret (res_box13 Tryz.results79 rfl hF.2) rfl (hF.1.wide (by omega) (by omega))
          | false =>
            go_wp2_with fail
            refine Calls.mono (Tryz.sub113 ih hS (by omega) hn 4 (by omega)) ?_
            rintro e V5 ⟨t1, d1, c1, b1, rfl, hX1, hb1, hL, hT⟩
            replace hX1 := hX1.less (Nat.le_refl _) hS.size
            replace hS := hS.turn hT hL
            obtain ⟨q0, q1, q2, q3⟩ := hS.cells
            clear hL hT
            simp only [Ex.v, Node.v, Node.cells]
            go_wp2_with fail
            have hR := TreeAt.row1 (opX 25) (opX_ok _) hX1 (Nat.le_refl _) hS.size
            have hAl := (Below.refl (V5).heap.size V5).alloc (Nat.le_refl _) (.cells (rowC [(t1, d1, c1)]).toArray 57)
            replace hS := hS.call hAl
            clear hX1 hAl
            refine (Tryz.oper 25 _ 1 1 _).mono ?_
            rintro e V6 ⟨rfl, hbO⟩
            replace hR := hR.call hbO
            replace hS := hS.call hbO
            obtain ⟨q0, q1, q2, q3⟩ := hS.cells
            simp only [Node.v, Node.cells]
            clear hbO
            have hY := heap_alloc_new V6 (.cells #[.int .i64 4, .int .i64 25, .int .i64 0, .int .i64 0, .int .i64 0, .string ⟨#[]⟩, .string ⟨#[]⟩, .string ⟨#[]⟩, .bool false, .slice (some ⟨(V5).heap.size, 0, none⟩) 1 1, .slice none 0 0, .slice none 0 0, .slice none 0 0] 57)
            have hAl := (Below.refl (V6).heap.size V6).alloc (Nat.le_refl _) (.cells #[.int .i64 4, .int .i64 25, .int .i64 0, .int .i64 0, .int .i64 0, .string ⟨#[]⟩, .string ⟨#[]⟩, .string ⟨#[]⟩, .bool false, .slice (some ⟨(V5).heap.size, 0, none⟩) 1 1, .slice none 0 0, .slice none 0 0, .slice none 0 0] 57)
            have hV := hS.size
            have hPg : P.g < (V6).heap.size := hS.live.lt
            have hsA := ex_alloc_size V6 (.cells #[.int .i64 4, .int .i64 25, .int .i64 0, .int .i64 0, .int .i64 0, .string ⟨#[]⟩, .string ⟨#[]⟩, .string ⟨#[]⟩, .bool false, .slice (some ⟨(V5).heap.size, 0, none⟩) 1 1, .slice none 0 0, .slice none 0 0, .slice none 0 0] 57)
            replace hS := hS.call hAl
            obtain ⟨q0, q1, q2, q3⟩ := hS.cells
            clear hAl
            go_wp2_with fail
            have hkA : ∀ p, p < (V6).heap.size → (World.alloc V6 (.cells #[.int .i64 4, .int .i64 25, .int .i64 0, .int .i64 0, .int .i64 0, .string ⟨#[]⟩, .string ⟨#[]⟩, .string ⟨#[]⟩, .bool false, .slice (some ⟨(V5).heap.size, 0, none⟩) 1 1, .slice none 0 0, .slice none 0 0, .slice none 0 0] 57)).heap[p]? = (V6).heap[p]? := fun p hp => heap_alloc_old _ _ hp
            generalize World.alloc V6 (.cells #[.int .i64 4, .int .i64 25, .int .i64 0, .int .i64 0, .int .i64 0, .string ⟨#[]⟩, .string ⟨#[]⟩, .string ⟨#[]⟩, .bool false, .slice (some ⟨(V5).heap.size, 0, none⟩) 1 1, .slice none 0 0, .slice none 0 0, .slice none 0 0] 57) = V7 at hS hY hkA hsA q0 q1 q2 q3 ⊢
            refine (Tryz.rangeL hS.live (by omega) 1 6 (by omega) (by omega) (by omega)).mono ?_
            rintro e V8 ⟨z, hz1, hz2, rfl, hL, hT⟩
            replace hY := hT.block hY (by omega)
            have hkA2 : ∀ p, p < (V6).heap.size → p ≠ P.g → (V8).heap[p]? = (V6).heap[p]? := fun p hp hpg => (hT.same p (by omega) hpg).trans (hkA p hp)
            clear hkA
            have hkA := hkA2
            clear hkA2
            replace hS := hS.turn hT hL
            obtain ⟨q0, q1, q2, q3⟩ := hS.cells
            clear hL hT
            have hYB : Box V8 (V6).heap.size ⟨4, 25, 0, 0, 0, ⟨#[]⟩, ⟨#[]⟩, ⟨#[]⟩, false⟩ (.slice (some ⟨(V5).heap.size, 0, none⟩) 1 1) := hY
            have y2 := hYB.is.c2
            have z2 := hYB.froz 2
            go_upto_region 37 with fail
            have hY2 := block_set (i := 2) (v := .int .i64 z) hY
            replace hS := hS.set (b := (V6).heap.size) (i := 2) (v := .int .i64 z) (by omega)
            obtain ⟨q0, q1, q2, q3⟩ := hS.cells
            have hk2 : ∀ p, p < (V6).heap.size → p ≠ P.g → (World.setCell V8 ⟨(V6).heap.size, 2, none⟩ (.int .i64 z)).heap[p]? = (V6).heap[p]? := fun p hp hpg => (block_set_ne (by omega)).trans (hkA p hp hpg)
            have hs2 : (V6).heap.size ≤ (World.setCell V8 ⟨(V6).heap.size, 2, none⟩ (.int .i64 z)).heap.size := by rw [size_set]; have := blk_lt hY; omega
            generalize World.setCell V8 ⟨(V6).heap.size, 2, none⟩ (.int .i64 z) = V9 at hS hY2 hk2 hs2 q0 q1 q2 q3 ⊢
            clear hY hYB y2 z2 hkA
            replace hR := (hR.via hs2 (fun p h1 h2 => hk2 p h2 (by omega))).node (y := ⟨4, 25, z, 0, 0, ⟨#[]⟩, ⟨#[]⟩, ⟨#[]⟩, false⟩) ⟨Nat.zero_le _, Nat.zero_le _, Nat.zero_le _⟩
            have hYB : Box V9 (V6).heap.size ⟨4, 25, z, 0, 0, ⟨#[]⟩, ⟨#[]⟩, ⟨#[]⟩, false⟩ (.slice (some ⟨(V5).heap.size, 0, none⟩) 1 1) := hY2
            obtain ⟨x0, x1, x2, x3, x4, x5, x6, x7, x8, x9, x10, x11, x12⟩ := hYB.is
            clear hY2 hk2 hs2
            have hF := Out.fin (a := a) (K := 5 * K + 30) hS.turns hS.live hR hS.res (Nat.le_add_right _ _) (by omega) hg (by omega)
            obtain ⟨c0, c1, c2, c3, c4, c5, c6, c7, c8, c9, c10, c11, c12⟩ := hS.res.is
            obtain ⟨f0, f1, f2, f3, f4, f5, f6, f7, f8, f9, f10, f11, f12⟩ := hS.res.frozs
            simp only [Ex.v, Ex.node, Ex.args, List.length_cons, List.length_nil, Node.v, Node.cells] at hF
            go_wp2_with fail
            exact bodyPost_ret (res_box13 Tryz.results79 rfl hF.2) rfl (hF.1.wide (by omega) (by omega))
    have e2 : (r == 2) = false := by simpa using r2
    obtain rfl | rfl | rfl | rfl : kind = 1 ∨ kind = 2 ∨ kind = 3 ∨ kind = 4 := by omega
    · go_wp2_with fail
      refine Calls.mono (Tryz.truth ih hn hK hC hM hS.gen (by omega)) ?_
      rintro e V3 ⟨t, d, c, b, rfl, hX, hb, hL, hT⟩
      have hR := hX.less (D := 5 * C + 1) (by omega) hS.size
      replace hS := hS.turn hT hL
      clear hX hT hL
      have hF := Out.fin (a := a) (K := 5 * K + 30) hS.turns hS.live hR hS.res (Nat.le_add_right _ _) (by omega) hg (by omega)
      obtain ⟨c0, c1, c2, c3, c4, c5, c6, c7, c8, c9, c10, c11, c12⟩ := hS.res.is
      obtain ⟨f0, f1, f2, f3, f4, f5, f6, f7, f8, f9, f10, f11, f12⟩ := hS.res.frozs
      simp only [Ex.v, Node.v, Node.cells] at hF ⊢
      go_wp2_with fail
      exact bodyPost_ret (res_box13 Tryz.results79 rfl hF.2) rfl hF.1
    · go_wp2_with fail
      refine Calls.mono (Tryz.number ih hn hK hC hM hS.gen (by omega)) ?_
      rintro e V3 ⟨t, d, c, b, rfl, hX, hb, hL, hT⟩
      have hR := hX.less (D := 5 * C + 1) (by omega) hS.size
      replace hS := hS.turn hT hL
      clear hX hT hL
      have hF := Out.fin (a := a) (K := 5 * K + 30) hS.turns hS.live hR hS.res (Nat.le_add_right _ _) (by omega) hg (by omega)
      obtain ⟨c0, c1, c2, c3, c4, c5, c6, c7, c8, c9, c10, c11, c12⟩ := hS.res.is
      obtain ⟨f0, f1, f2, f3, f4, f5, f6, f7, f8, f9, f10, f11, f12⟩ := hS.res.frozs
      simp only [Ex.v, Node.v, Node.cells] at hF ⊢
      go_wp2_with fail
      exact bodyPost_ret (res_box13 Tryz.results79 rfl hF.2) rfl hF.1
    · go_wp2_with fail
      refine (Tryz.nextL hS.live (by omega) 4 (by omega) (by omega)).mono ?_
      rintro e V3 ⟨r', hr5, hr6, rfl, hL, hT⟩
      replace hS := hS.turn hT hL
      obtain ⟨q0, q1, q2, q3⟩ := hS.cells
      clear hL hT
      by_cases s0 : r' = 0
      · subst s0
        go_wp2_with fail
        have hbp := heap_alloc_new V3 (.cells #[.int .i64 20, .int .i64 21] 3)
        have hAl := (Below.refl (V3).heap.size V3).alloc (Nat.le_refl _) (.cells #[.int .i64 20, .int .i64 21] 3)
        have hnp : (V3).heap.size ≠ P.g := by have := hS.live.lt; omega
        replace hS := hS.call hAl
        refine (Tryz.pickL hS.live (by omega) _ _ [20, 21] rfl hnp hbp (by simp) (by simp)).mono ?_
        rintro e V4 ⟨z, hz, rfl, hL, hT⟩
        replace hS := hS.turn hT hL
        obtain ⟨q0, q1, q2, q3⟩ := hS.cells
        clear hL hT hbp hAl hnp
        go_wp2_with fail
        refine Calls.mono (Tryz.sub113 ih hS (by omega) hn 3 (by omega)) ?_
        rintro e V5 ⟨t1, d1, c1, b1, rfl, hX1, hb1, hL, hT⟩
        replace hX1 := hX1.less (Nat.le_refl _) hS.size
        replace hS := hS.turn hT hL
        obtain ⟨q0, q1, q2, q3⟩ := hS.cells
        clear hL hT
        simp only [Ex.v, Node.v, Node.cells]
        go_wp2_with fail
        have hR := TreeAt.row1 (opX z) (opX_ok _) hX1 (Nat.le_refl _) hS.size
        have hAl := (Below.refl (V5).heap.size V5).alloc (Nat.le_refl _) (.cells (rowC [(t1, d1, c1)]).toArray 57)
        replace hS := hS.call hAl
        clear hX1 hAl
        refine (Tryz.oper z _ 1 1 _).mono ?_
        rintro e V6 ⟨rfl, hbO⟩
        replace hR := hR.call hbO
        replace hS := hS.call hbO
        obtain ⟨q0, q1, q2, q3⟩ := hS.cells
        simp only [Node.v, Node.cells]
        clear hbO
        have hF := Out.fin (a := a) (K := 5 * K + 30) hS.turns hS.live hR hS.res (Nat.le_add_right _ _) (by omega) hg (by omega)
        obtain ⟨c0, c1, c2, c3, c4, c5, c6, c7, c8, c9, c10, c11, c12⟩ := hS.res.is
        obtain ⟨f0, f1, f2, f3, f4, f5, f6, f7, f8, f9, f10, f11, f12⟩ := hS.res.frozs
        simp only [Ex.v, Ex.node, Ex.args, List.length_cons, List.length_nil, Node.v, Node.cells, opX] at hF
        go_wp2_with fail
        exact bodyPost_ret (res_box13 Tryz.results79 rfl hF.2) rfl (hF.1.wide (by omega) (by omega))
      · by_cases s1 : r' = 1
        · subst s1
          go_wp2_with fail
          refine Calls.mono (Tryz.sub113 ih hS (by omega) hn 3 (by omega)) ?_
          rintro e V4 ⟨t1, d1, c1, b1, rfl, hX1, hb1, hL, hT⟩
          replace hX1 := hX1.less (Nat.le_refl _) hS.size
          replace hS := hS.turn hT hL
          obtain ⟨q0, q1, q2, q3⟩ := hS.cells
          clear hL hT
          simp only [Ex.v, Node.v, Node.cells]
          go_wp2_with fail
          refine Calls.mono (Tryz.sub113 ih hS (by omega) hn 2 (by omega)) ?_
          rintro e V5 ⟨t2, d2, c2, b2, rfl, hX2, hb2, hL, hT⟩
          replace hX2 := hX2.less (Nat.le_refl _) hS.size
          replace hX1 := hX1.turn hT (by have := hS.size; omega)
          replace hS := hS.turn hT hL
          obtain ⟨q0, q1, q2, q3⟩ := hS.cells
          clear hL hT
          simp only [Ex.v, Node.v, Node.cells]
          go_wp2_with fail
          refine Calls.mono (Tryz.sub113 ih hS (by omega) hn 2 (by omega)) ?_
          rintro e V6 ⟨t3, d3, c3, b3, rfl, hX3, hb3, hL, hT⟩
          replace hX3 := hX3.less (Nat.le_refl _) hS.size
          replace hX1 := hX1.turn hT (by have := hS.size; omega)
          replace hX2 := hX2.turn hT (by have := hS.size; omega)
          replace hS := hS.turn hT hL
          obtain ⟨q0, q1, q2, q3⟩ := hS.cells
          clear hL hT
          simp only [Ex.v, Node.v, Node.cells]
          go_wp2_with fail
          have hR := TreeAt.row3 (opX 23) (opX_ok _) hX1 hX2 hX3 (Nat.le_refl _) hS.size
          have hAl := (Below.refl (V6).heap.size V6).alloc (Nat.le_refl _) (.cells (rowC [(t1, d1, c1), (t2, d2, c2), (t3, d3, c3)]).toArray 57)
          replace hS := hS.call hAl
          clear hX1 hX2 hX3 hAl
          refine (Tryz.oper 23 _ 3 3 _).mono ?_
          rintro e V7 ⟨rfl, hbO⟩
          replace hR := hR.call hbO
          replace hS := hS.call hbO
          obtain ⟨q0, q1, q2, q3⟩ := hS.cells
          simp only [Node.v, Node.cells]
          clear hbO
          have hF := Out.fin (a := a) (K := 5 * K + 30) hS.turns hS.live hR hS.res (Nat.le_add_right _ _) (by omega) hg (by omega)
          obtain ⟨c0, c1, c2, c3, c4, c5, c6, c7, c8, c9, c10, c11, c12⟩ := hS.res.is
          obtain ⟨f0, f1, f2, f3, f4, f5, f6, f7, f8, f9, f10, f11, f12⟩ := hS.res.frozs
          simp only [Ex.v, Ex.node, Ex.args, List.length_cons, List.length_nil, Node.v, Node.cells, opX] at hF
          go_wp2_with fail
          exact bodyPost_ret (res_box13 Tryz.results79 rfl hF.2) rfl (hF.1.wide (by omega) (by omega))
        · have e0 : (r' == 0) = false := by simpa using s0
          have e1 : (r' == 1) = false := by simpa using s1
          go_wp2_with fail
          refine Calls.mono (Tryz.sub113 ih hS (by omega) hn 3 (by omega)) ?_
          rintro e V4 ⟨t1, d1, c1, b1, rfl, hX1, hb1, hL, hT⟩
          replace hX1 := hX1.less (Nat.le_refl _) hS.size
          replace hS := hS.turn hT hL
          obtain ⟨q0, q1, q2, q3⟩ := hS.cells
          clear hL hT
          simp only [Ex.v, Node.v, Node.cells]
          go_wp2_with fail
          refine Calls.mono (Tryz.sub113 ih hS (by omega) hn 3 (by omega)) ?_
          rintro e V5 ⟨t2, d2, c2, b2, rfl, hX2, hb2, hL, hT⟩
          replace hX2 := hX2.less (Nat.le_refl _) hS.size
          replace hX1 := hX1.turn hT (by have := hS.size; omega)
          replace hS := hS.turn hT hL
          obtain ⟨q0, q1, q2, q3⟩ := hS.cells
          clear hL hT
          simp only [Ex.v, Node.v, Node.cells]
          go_wp2_with fail
          have hR := TreeAt.row2 (opX 18) (opX_ok _) hX1 hX2 (Nat.le_refl _) hS.size
          have hAl := (Below.refl (V5).heap.size V5).alloc (Nat.le_refl _) (.cells (rowC [(t1, d1, c1), (t2, d2, c2)]).toArray 57)
          replace hS := hS.call hAl
          clear hX1 hX2 hAl
          refine (Tryz.oper 18 _ 2 2 _).mono ?_
          rintro e V6 ⟨rfl, hbO⟩
          replace hR := hR.call hbO
          replace hS := hS.call hbO
          obtain ⟨q0, q1, q2, q3⟩ := hS.cells
          simp only [Node.v, Node.cells]
          clear hbO
          have hF := Out.fin (a := a) (K := 5 * K + 30) hS.turns hS.live hR hS.res (Nat.le_add_right _ _) (by omega) hg (by omega)
          obtain ⟨c0, c1, c2, c3, c4, c5, c6, c7, c8, c9, c10, c11, c12⟩ := hS.res.is
          obtain ⟨f0, f1, f2, f3, f4, f5, f6, f7, f8, f9, f10, f11, f12⟩ := hS.res.frozs
          simp only [Ex.v, Ex.node, Ex.args, List.length_cons, List.length_nil, Node.v, Node.cells, opX] at hF
          go_wp2_with fail
          exact bodyPost_ret (res_box13 Tryz.results79 rfl hF.2) rfl (hF.1.wide (by omega) (by omega))
    · go_wp2_with fail
      refine (Tryz.flipL hS.live (by omega) 2 (by omega) (by omega)).mono ?_
      rintro e V3 ⟨fl, rfl, hL, hT⟩
      replace hS := hS.turn hT hL
      obtain ⟨q0, q1, q2, q3⟩ := hS.cells
      clear hL hT
      cases fl with
      | true =>
        go_wp2_with fail
        have hbp := heap_alloc_new V3 (.cells #[.int .i64 12, .int .i64 13] 3)
        have hAl := (Below.refl (V3).heap.size V3).alloc (Nat.le_refl _) (.cells #[.int .i64 12, .int .i64 13] 3)
        have hnp : (V3).heap.size ≠ P.g := by have := hS.live.lt; omega
        replace hS := hS.call hAl
        refine (Tryz.pickL hS.live (by omega) _ _ [12, 13] rfl hnp hbp (by simp) (by simp)).mono ?_
        rintro e V4 ⟨z, hz, rfl, hL, hT⟩
        replace hS := hS.turn hT hL
        obtain ⟨q0, q1, q2, q3⟩ := hS.cells
        clear hL hT hbp hAl hnp
        go_wp2_with fail
        refine Calls.mono (Tryz.sub113 ih hS (by omega) hn 4 (by omega)) ?_
        rintro e V5 ⟨t1, d1, c1, b1, rfl, hX1, hb1, hL, hT⟩
        replace hX1 := hX1.less (Nat.le_refl _) hS.size
        replace hS := hS.turn hT hL
        obtain ⟨q0, q1, q2, q3⟩ := hS.cells
        clear hL hT
        simp only [Ex.v, Node.v, Node.cells]
        go_wp2_with fail
        refine Calls.mono (Tryz.sub113 ih hS (by omega) hn 2 (by omega)) ?_
        rintro e V6 ⟨t2, d2, c2, b2, rfl, hX2, hb2, hL, hT⟩
        replace hX2 := hX2.less (Nat.le_refl _) hS.size
        replace hX1 := hX1.turn hT (by have := hS.size; omega)
        replace hS := hS.turn hT hL
        obtain ⟨q0, q1, q2, q3⟩ := hS.cells
        clear hL hT
        simp only [Ex.v, Node.v, Node.cells]
        go_wp2_with fail
        have hR := TreeAt.row2 (opX z) (opX_ok _) hX1 hX2 (Nat.le_refl _) hS.size
        have hAl := (Below.refl (V6).heap.size V6).alloc (Nat.le_refl _) (.cells (rowC [(t1, d1, c1), (t2, d2, c2)]).toArray 57)
        replace hS := hS.call hAl
        clear hX1 hX2 hAl
        refine (Tryz.oper z _ 2 2 _).mono ?_
        rintro e V7 ⟨rfl, hbO⟩
        replace hR := hR.call hbO
        replace hS := hS.call hbO
        obtain ⟨q0, q1, q2, q3⟩ := hS.cells
        simp only [Node.v, Node.cells]
        clear hbO
        have hF := Out.fin (a := a) (K := 5 * K + 30) hS.turns hS.live hR hS.res (Nat.le_add_right _ _) (by omega) hg (by omega)
        obtain ⟨c0, c1, c2, c3, c4, c5, c6, c7, c8, c9, c10, c11, c12⟩ := hS.res.is
        obtain ⟨f0, f1, f2, f3, f4, f5, f6, f7, f8, f9, f10, f11, f12⟩ := hS.res.frozs
        simp only [Ex.v, Ex.node, Ex.args, List.length_cons, List.length_nil, Node.v, Node.cells, opX] at hF
        go_wp2_with fail
        exact bodyPost_ret (res_box13 Tryz.results79 rfl hF.2) rfl (hF.1.wide (by omega) (by omega))
      | false =>
        go_wp2_with fail
        refine Calls.mono (Tryz.sub113 ih hS (by omega) hn 4 (by omega)) ?_
        rintro e V4 ⟨t1, d1, c1, b1, rfl, hX1, hb1, hL, hT⟩
        replace hX1 := hX1.less (Nat.le_refl _) hS.size
        replace hS := hS.turn hT hL
        obtain ⟨q0, q1, q2, q3⟩ := hS.cells
        clear hL hT
        simp only [Ex.v, Node.v, Node.cells]
        go_wp2_with fail
        have hR := TreeAt.row1 (opX 25) (opX_ok _) hX1 (Nat.le_refl _) hS.size
        have hAl := (Below.refl (V4).heap.size V4).alloc (Nat.le_refl _) (.cells (rowC [(t1, d1, c1)]).toArray 57)
        replace hS := hS.call hAl
        clear hX1 hAl
        refine (Tryz.oper 25 _ 1 1 _).mono ?_
        rintro e V5 ⟨rfl, hbO⟩
        replace hR := hR.call hbO
        replace hS := hS.call hbO
        obtain ⟨q0, q1, q2, q3⟩ := hS.cells
        simp only [Node.v, Node.cells]
        clear hbO
        have hY := heap_alloc_new V5 (.cells #[.int .i64 4, .int .i64 25, .int .i64 0, .int .i64 0, .int .i64 0, .string ⟨#[]⟩, .string ⟨#[]⟩, .string ⟨#[]⟩, .bool false, .slice (some ⟨(V4).heap.size, 0, none⟩) 1 1, .slice none 0 0, .slice none 0 0, .slice none 0 0] 57)
        have hAl := (Below.refl (V5).heap.size V5).alloc (Nat.le_refl _) (.cells #[.int .i64 4, .int .i64 25, .int .i64 0, .int .i64 0, .int .i64 0, .string ⟨#[]⟩, .string ⟨#[]⟩, .string ⟨#[]⟩, .bool false, .slice (some ⟨(V4).heap.size, 0, none⟩) 1 1, .slice none 0 0, .slice none 0 0, .slice none 0 0] 57)
        have hV := hS.size
        have hPg : P.g < (V5).heap.size := hS.live.lt
        have hsA := ex_alloc_size V5 (.cells #[.int .i64 4, .int .i64 25, .int .i64 0, .int .i64 0, .int .i64 0, .string ⟨#[]⟩, .string ⟨#[]⟩, .string ⟨#[]⟩, .bool false, .slice (some ⟨(V4).heap.size, 0, none⟩) 1 1, .slice none 0 0, .slice none 0 0, .slice none 0 0] 57)
        replace hS := hS.call hAl
        obtain ⟨q0, q1, q2, q3⟩ := hS.cells
        clear hAl
        go_wp2_with fail
        have hkA : ∀ p, p < (V5).heap.size → (World.alloc V5 (.cells #[.int .i64 4, .int .i64 25, .int .i64 0, .int .i64 0, .int .i64 0, .string ⟨#[]⟩, .string ⟨#[]⟩, .string ⟨#[]⟩, .bool false, .slice (some ⟨(V4).heap.size, 0, none⟩) 1 1, .slice none 0 0, .slice none 0 0, .slice none 0 0] 57)).heap[p]? = (V5).heap[p]? := fun p hp => heap_alloc_old _ _ hp
        generalize World.alloc V5 (.cells #[.int .i64 4, .int .i64 25, .int .i64 0, .int .i64 0, .int .i64 0, .string ⟨#[]⟩, .string ⟨#[]⟩, .string ⟨#[]⟩, .bool false, .slice (some ⟨(V4).heap.size, 0, none⟩) 1 1, .slice none 0 0, .slice none 0 0, .slice none 0 0] 57) = V6 at hS hY hkA hsA q0 q1 q2 q3 ⊢
        refine (Tryz.rangeL hS.live (by omega) 1 6 (by omega) (by omega) (by omega)).mono ?_
        rintro e V7 ⟨z, hz1, hz2, rfl, hL, hT⟩
        replace hY := hT.block hY (by omega)
        have hkA2 : ∀ p, p < (V5).heap.size → p ≠ P.g → (V7).heap[p]? = (V5).heap[p]? := fun p hp hpg => (hT.same p (by omega) hpg).trans (hkA p hp)
        clear hkA
        have hkA := hkA2
        clear hkA2
        replace hS := hS.turn hT hL
        obtain ⟨q0, q1, q2, q3⟩ := hS.cells
        clear hL hT
        have hYB : Box V7 (V5).heap.size ⟨4, 25, 0, 0, 0, ⟨#[]⟩, ⟨#[]⟩, ⟨#[]⟩, false⟩ (.slice (some ⟨(V4).heap.size, 0, none⟩) 1 1) := hY
        have y2 := hYB.is.c2
        have z2 := hYB.froz 2
        go_upto_region 37 with fail
        have hY2 := block_set (i := 2) (v := .int .i64 z) hY
        replace hS := hS.set (b := (V5).heap.size) (i := 2) (v := .int .i64 z) (by omega)
        obtain ⟨q0, q1, q2, q3⟩ := hS.cells
        have hk2 : ∀ p, p < (V5).heap.size → p ≠ P.g → (World.setCell V7 ⟨(V5).heap.size, 2, none⟩ (.int .i64 z)).heap[p]? = (V5).heap[p]? := fun p hp hpg => (block_set_ne (by omega)).trans (hkA p hp hpg)
        have hs2 : (V5).heap.size ≤ (World.setCell V7 ⟨(V5).heap.size, 2, none⟩ (.int .i64 z)).heap.size := by rw [size_set]; have := blk_lt hY; omega
        generalize World.setCell V7 ⟨(V5).heap.size, 2, none⟩ (.int .i64 z) = V8 at hS hY2 hk2 hs2 q0 q1 q2 q3 ⊢
        clear hY hYB y2 z2 hkA
        replace hR := (hR.via hs2 (fun p h1 h2 => hk2 p h2 (by omega))).node (y := ⟨4, 25, z, 0, 0, ⟨#[]⟩, ⟨#[]⟩, ⟨#[]⟩, false⟩) ⟨Nat.zero_le _, Nat.zero_le _, Nat.zero_le _⟩
        have hYB : Box V8 (V5).heap.size ⟨4, 25, z, 0, 0, ⟨#[]⟩, ⟨#[]⟩, ⟨#[]⟩, false⟩ (.slice (some ⟨(V4).heap.size, 0, none⟩) 1 1) := hY2
        obtain ⟨x0, x1, x2, x3, x4, x5, x6, x7, x8, x9, x10, x11, x12⟩ := hYB.is
        clear hY2 hk2 hs2
        have hF := Out.fin (a := a) (K := 5 * K + 30) hS.turns hS.live hR hS.res (Nat.le_add_right _ _) (by omega) hg (by omega)
        obtain ⟨c0, c1, c2, c3, c4, c5, c6, c7, c8, c9, c10, c11, c12⟩ := hS.res.is
        obtain ⟨f0, f1, f2, f3, f4, f5, f6, f7, f8, f9, f10, f11, f12⟩ := hS.res.frozs
        simp only [Ex.v, Ex.node, Ex.args, List.length_cons, List.length_nil, Node.v, Node.cells] at hF
        go_wp2_with fail
        exact bodyPost_ret (res_box13 Tryz.results79 rfl hF.2) rfl (hF.1.wide (by omega) (by omega))

end Go.Proofs
