/- Of package dumbmake: trees that are conditions. No condition. -/
import Derived.Test.YtkpligcifakmjaaGreatDoorRowM
namespace Go.Proofs
open Go.RowKit Go.Ke

set_option maxRecDepth 20000 in
set_option maxHeartbeats 4000000 in
theorem Tryz.truth {P : Pm} {n C : Nat} {K M : Int} (ih : ScC P n C K M) (hn : n ≤ 100) (hK : 0 ≤ K) (hC : 1 ≤ C) (hM : M ≤ 60000) {W : World} {a : Int} (h : Gen P W a) (ha : a + 5 * K + 40 ≤ M) :
    Calls Tryz.prog 115 #[.pointer (some ⟨P.g, 0, none⟩), .slice P.cad P.cs.length P.cc, .slice P.pad P.ps.length P.pc, .int .i64 ((n : Int) + 1)] W (Out P (5 * C + 1) (5 * K + 20) a W) := by
  have hg := h.live.lt
  have hS := Sc.start h ((n : Int) + 1)
  unfold zeroX Node.cells at hS
  go_enter Tryz.func115, Tryz.ntmps115
  go_upto_region 1 with fail
  generalize (World.alloc _ (.cells _ 57)) = W0 at hS ⊢
  obtain ⟨q0, q1, q2, q3⟩ := hS.cells
  go_wp2_with fail
  refine (Tryz.nextL hS.live (by omega) 8 (by omega) (by omega)).mono ?_
  rintro e V1 ⟨r, hr1, hr2, rfl, hL, hT⟩
  replace hS := hS.turn hT hL
  obtain ⟨q0, q1, q2, q3⟩ := hS.cells
  clear hL hT
  by_cases r0 : r = 0
  · subst r0
    go_wp2_with fail
    refine Calls.mono (Tryz.sub154 ih hS (by omega) hn 1 (by omega)) ?_
    rintro e V2 ⟨t1, d1, c1, b1, rfl, hX1, hb1, hL, hT⟩
    replace hX1 := hX1.less (Nat.le_refl _) hS.size
    replace hS := hS.turn hT hL
    obtain ⟨q0, q1, q2, q3⟩ := hS.cells
    clear hL hT
    simp only [Ex.v, Node.v, Node.cells]
    go_wp2_with fail
    have hR := TreeAt.row1 (opX 1) (opX_ok _) hX1 (Nat.le_refl _) hS.size
    have hAl := (Below.refl (V2).heap.size V2).alloc (Nat.le_refl _) (.cells (rowC [(t1, d1, c1)]).toArray 57)
    replace hS := hS.call hAl
    clear hX1 hAl
    refine (Tryz.oper 1 _ 1 1 _).mono ?_
    rintro e V3 ⟨rfl, hbO⟩
    replace hR := hR.call hbO
    replace hS := hS.call hbO
    obtain ⟨q0, q1, q2, q3⟩ := hS.cells
    simp only [Node.v, Node.cells]
    clear hbO
    have hF := Out.fin (a := a) (K := 5 * K + 20) hS.turns hS.live hR hS.res (Nat.le_add_right _ _) (by omega) hg (by omega)
    obtain ⟨c0, c1, c2, c3, c4, c5, c6, c7, c8, c9, c10, c11, c12⟩ := hS.res.is
    obtain ⟨f0, f1, f2, f3, f4, f5, f6, f7, f8, f9, f10, f11, f12⟩ := hS.res.frozs
    simp only [Ex.v, Ex.node, Ex.args, List.length_cons, List.length_nil, Node.v, Node.cells, opX] at hF
    go_wp2_with fail
    exact bodyPost_ret (res_box13 Tryz.results115 rfl hF.2) rfl (hF.1.wide (by omega) (by omega))
  by_cases r1 : r = 1
  · subst r1
    go_wp2_with fail
    have hbp := heap_alloc_new V1 (.cells #[.int .i64 2, .int .i64 3] 3)
    have hAl := (Below.refl (V1).heap.size V1).alloc (Nat.le_refl _) (.cells #[.int .i64 2, .int .i64 3] 3)
    have hnp : (V1).heap.size ≠ P.g := by have := hS.live.lt; omega
    replace hS := hS.call hAl
    refine (Tryz.pickL hS.live (by omega) _ _ [2, 3] rfl hnp hbp (by simp) (by simp)).mono ?_
    rintro e V2 ⟨z, hz, rfl, hL, hT⟩
    replace hS := hS.turn hT hL
    obtain ⟨q0, q1, q2, q3⟩ := hS.cells
    clear hL hT hbp hAl hnp
    go_wp2_with fail
    refine Calls.mono (Tryz.sub154 ih hS (by omega) hn 1 (by omega)) ?_
    rintro e V3 ⟨t1, d1, c1, b1, rfl, hX1, hb1, hL, hT⟩
    replace hX1 := hX1.less (Nat.le_refl _) hS.size
    replace hS := hS.turn hT hL
    obtain ⟨q0, q1, q2, q3⟩ := hS.cells
    clear hL hT
    simp only [Ex.v, Node.v, Node.cells]
    go_wp2_with fail
    refine Calls.mono (Tryz.sub154 ih hS (by omega) hn 1 (by omega)) ?_
    rintro e V4 ⟨t2, d2, c2, b2, rfl, hX2, hb2, hL, hT⟩
    replace hX2 := hX2.less (Nat.le_refl _) hS.size
    replace hX1 := hX1.turn hT (by have := hS.size; omega)
    replace hS := hS.turn hT hL
    obtain ⟨q0, q1, q2, q3⟩ := hS.cells
    clear hL hT
    simp only [Ex.v, Node.v, Node.cells]
    go_wp2_with fail
    have hR := TreeAt.row2 (opX z) (opX_ok _) hX1 hX2 (Nat.le_refl _) hS.size
    have hAl := (Below.refl (V4).heap.size V4).alloc (Nat.le_refl _) (.cells (rowC [(t1, d1, c1), (t2, d2, c2)]).toArray 57)
    replace hS := hS.call hAl
    clear hX1 hX2 hAl
    refine (Tryz.oper z _ 2 2 _).mono ?_
    rintro e V5 ⟨rfl, hbO⟩
    replace hR := hR.call hbO
    replace hS := hS.call hbO
    obtain ⟨q0, q1, q2, q3⟩ := hS.cells
    simp only [Node.v, Node.cells]
    clear hbO
    have hF := Out.fin (a := a) (K := 5 * K + 20) hS.turns hS.live hR hS.res (Nat.le_add_right _ _) (by omega) hg (by omega)
    obtain ⟨c0, c1, c2, c3, c4, c5, c6, c7, c8, c9, c10, c11, c12⟩ := hS.res.is
    obtain ⟨f0, f1, f2, f3, f4, f5, f6, f7, f8, f9, f10, f11, f12⟩ := hS.res.frozs
    simp only [Ex.v, Ex.node, Ex.args, List.length_cons, List.length_nil, Node.v, Node.cells, opX] at hF
    go_wp2_with fail
    exact bodyPost_ret (res_box13 Tryz.results115 rfl hF.2) rfl (hF.1.wide (by omega) (by omega))
  by_cases r2 : r = 2
  · subst r2
    go_wp2_with fail
    have hbp := heap_alloc_new V1 (.cells #[.int .i64 2, .int .i64 3] 3)
    have hAl := (Below.refl (V1).heap.size V1).alloc (Nat.le_refl _) (.cells #[.int .i64 2, .int .i64 3] 3)
    have hnp : (V1).heap.size ≠ P.g := by have := hS.live.lt; omega
    replace hS := hS.call hAl
    refine (Tryz.pickL hS.live (by omega) _ _ [2, 3] rfl hnp hbp (by simp) (by simp)).mono ?_
    rintro e V2 ⟨z, hz, rfl, hL, hT⟩
    replace hS := hS.turn hT hL
    obtain ⟨q0, q1, q2, q3⟩ := hS.cells
    clear hL hT hbp hAl hnp
    go_wp2_with fail
    refine Calls.mono (Tryz.sub154 ih hS (by omega) hn 1 (by omega)) ?_
    rintro e V3 ⟨t1, d1, c1, b1, rfl, hX1, hb1, hL, hT⟩
    replace hX1 := hX1.less (Nat.le_refl _) hS.size
    replace hS := hS.turn hT hL
    obtain ⟨q0, q1, q2, q3⟩ := hS.cells
    clear hL hT
    simp only [Ex.v, Node.v, Node.cells]
    go_wp2_with fail
    refine Calls.mono (Tryz.sub154 ih hS (by omega) hn 1 (by omega)) ?_
    rintro e V4 ⟨t2, d2, c2, b2, rfl, hX2, hb2, hL, hT⟩
    replace hX2 := hX2.less (Nat.le_refl _) hS.size
    replace hX1 := hX1.turn hT (by have := hS.size; omega)
    replace hS := hS.turn hT hL
    obtain ⟨q0, q1, q2, q3⟩ := hS.cells
    clear hL hT
    simp only [Ex.v, Node.v, Node.cells]
    go_wp2_with fail
    have hR := TreeAt.row2 (opX z) (opX_ok _) hX1 hX2 (Nat.le_refl _) hS.size
    have hAl := (Below.refl (V4).heap.size V4).alloc (Nat.le_refl _) (.cells (rowC [(t1, d1, c1), (t2, d2, c2)]).toArray 57)
    replace hS := hS.call hAl
    clear hX1 hX2 hAl
    refine (Tryz.oper z _ 2 2 _).mono ?_
    rintro e V5 ⟨rfl, hbO⟩
    replace hR := hR.call hbO
    replace hS := hS.call hbO
    obtain ⟨q0, q1, q2, q3⟩ := hS.cells
    simp only [Node.v, Node.cells]
    clear hbO
    have hF := Out.fin (a := a) (K := 5 * K + 20) hS.turns hS.live hR hS.res (Nat.le_add_right _ _) (by omega) hg (by omega)
    obtain ⟨c0, c1, c2, c3, c4, c5, c6, c7, c8, c9, c10, c11, c12⟩ := hS.res.is
    obtain ⟨f0, f1, f2, f3, f4, f5, f6, f7, f8, f9, f10, f11, f12⟩ := hS.res.frozs
    simp only [Ex.v, Ex.node, Ex.args, List.length_cons, List.length_nil, Node.v, Node.cells, opX] at hF
    go_wp2_with fail
    exact bodyPost_ret (res_box13 Tryz.results115 rfl hF.2) rfl (hF.1.wide (by omega) (by omega))
  by_cases r3 : r = 3
  · subst r3
    go_wp2_with fail
    refine (Tryz.kindL hS.live (by omega)).mono ?_
    rintro e V2 ⟨k, hk1, hk2, rfl, hL, hT⟩
    replace hS := hS.turn hT hL
    obtain ⟨q0, q1, q2, q3⟩ := hS.cells
    clear hL hT
    go_wp2_with fail
    refine Calls.mono (Tryz.sub154 ih hS (by omega) hn k ⟨hk1, hk2⟩) ?_
    rintro e V3 ⟨t1, d1, c1, b1, rfl, hX1, hb1, hL, hT⟩
    replace hX1 := hX1.less (Nat.le_refl _) hS.size
    replace hS := hS.turn hT hL
    obtain ⟨q0, q1, q2, q3⟩ := hS.cells
    clear hL hT
    simp only [Ex.v, Node.v, Node.cells]
    go_wp2_with fail
    have hR := TreeAt.row1 (opX 11) (opX_ok _) hX1 (Nat.le_refl _) hS.size
    have hAl := (Below.refl (V3).heap.size V3).alloc (Nat.le_refl _) (.cells (rowC [(t1, d1, c1)]).toArray 57)
    replace hS := hS.call hAl
    clear hX1 hAl
    refine (Tryz.oper 11 _ 1 1 _).mono ?_
    rintro e V4 ⟨rfl, hbO⟩
    replace hR := hR.call hbO
    replace hS := hS.call hbO
    obtain ⟨q0, q1, q2, q3⟩ := hS.cells
    simp only [Node.v, Node.cells]
    clear hbO
    have hF := Out.fin (a := a) (K := 5 * K + 20) hS.turns hS.live hR hS.res (Nat.le_add_right _ _) (by omega) hg (by omega)
    obtain ⟨c0, c1, c2, c3, c4, c5, c6, c7, c8, c9, c10, c11, c12⟩ := hS.res.is
    obtain ⟨f0, f1, f2, f3, f4, f5, f6, f7, f8, f9, f10, f11, f12⟩ := hS.res.frozs
    simp only [Ex.v, Ex.node, Ex.args, List.length_cons, List.length_nil, Node.v, Node.cells, opX] at hF
    go_wp2_with fail
    exact bodyPost_ret (res_box13 Tryz.results115 rfl hF.2) rfl (hF.1.wide (by omega) (by omega))
  by_cases r4 : r = 4
  · subst r4
    go_wp2_with fail
    refine Calls.mono (Tryz.sub154 ih hS (by omega) hn 3 (by omega)) ?_
    rintro e V2 ⟨t1, d1, c1, b1, rfl, hX1, hb1, hL, hT⟩
    replace hX1 := hX1.less (Nat.le_refl _) hS.size
    replace hS := hS.turn hT hL
    obtain ⟨q0, q1, q2, q3⟩ := hS.cells
    clear hL hT
    simp only [Ex.v, Node.v, Node.cells]
    go_wp2_with fail
    refine Calls.mono (Tryz.sub154 ih hS (by omega) hn 3 (by omega)) ?_
    rintro e V3 ⟨t2, d2, c2, b2, rfl, hX2, hb2, hL, hT⟩
    replace hX2 := hX2.less (Nat.le_refl _) hS.size
    replace hX1 := hX1.turn hT (by have := hS.size; omega)
    replace hS := hS.turn hT hL
    obtain ⟨q0, q1, q2, q3⟩ := hS.cells
    clear hL hT
    simp only [Ex.v, Node.v, Node.cells]
    go_wp2_with fail
    have hR := TreeAt.row2 (opX 19) (opX_ok _) hX1 hX2 (Nat.le_refl _) hS.size
    have hAl := (Below.refl (V3).heap.size V3).alloc (Nat.le_refl _) (.cells (rowC [(t1, d1, c1), (t2, d2, c2)]).toArray 57)
    replace hS := hS.call hAl
    clear hX1 hX2 hAl
    refine (Tryz.oper 19 _ 2 2 _).mono ?_
    rintro e V4 ⟨rfl, hbO⟩
    replace hR := hR.call hbO
    replace hS := hS.call hbO
    obtain ⟨q0, q1, q2, q3⟩ := hS.cells
    simp only [Node.v, Node.cells]
    clear hbO
    have hF := Out.fin (a := a) (K := 5 * K + 20) hS.turns hS.live hR hS.res (Nat.le_add_right _ _) (by omega) hg (by omega)
    obtain ⟨c0, c1, c2, c3, c4, c5, c6, c7, c8, c9, c10, c11, c12⟩ := hS.res.is
    obtain ⟨f0, f1, f2, f3, f4, f5, f6, f7, f8, f9, f10, f11, f12⟩ := hS.res.frozs
    simp only [Ex.v, Ex.node, Ex.args, List.length_cons, List.length_nil, Node.v, Node.cells, opX] at hF
    go_wp2_with fail
    exact bodyPost_ret (res_box13 Tryz.results115 rfl hF.2) rfl (hF.1.wide (by omega) (by omega))
  by_cases r5 : r = 5
  · subst r5
    go_wp2_with fail
    refine (Tryz.kindL hS.live (by omega)).mono ?_
    rintro e V2 ⟨k, hk1, hk2, rfl, hL, hT⟩
    replace hS := hS.turn hT hL
    obtain ⟨q0, q1, q2, q3⟩ := hS.cells
    clear hL hT
    go_wp2_with fail
    refine Calls.mono (Tryz.sub154 ih hS (by omega) hn k ⟨hk1, hk2⟩) ?_
    rintro e V3 ⟨t1, d1, c1, b1, rfl, hX1, hb1, hL, hT⟩
    replace hX1 := hX1.less (Nat.le_refl _) hS.size
    replace hS := hS.turn hT hL
    obtain ⟨q0, q1, q2, q3⟩ := hS.cells
    clear hL hT
    simp only [Ex.v, Node.v, Node.cells]
    have hsz := hS.size
    have hG : Cl P W.heap.size (V3.heap.size + 1) ((n : Int) + 1) ⟨6, 0, 0, 0, 0, ⟨#[]⟩, ⟨#[]⟩, ⟨#[]⟩, false⟩ W (World.alloc (V3.alloc (.cells (rowC [(t1, d1, c1)]).toArray 57)) (.cells #[.int .i64 6, .int .i64 0, .int .i64 0, .int .i64 0, .int .i64 0, .string ⟨#[]⟩, .string ⟨#[]⟩, .string ⟨#[]⟩, .bool false, .slice (some ⟨V3.heap.size, 0, none⟩) 1 1, .slice none 0 0, .slice none 0 0, .slice none 0 0] 57)) b1 (Value.slice (some ⟨V3.heap.size, 0, none⟩) 1 1) [(t1, d1, c1)] := Cl.laid hS hX1.1
    have q0 := fun o o' => ((hS.call ((Below.refl V3.heap.size V3).alloc (Nat.le_refl _) o)).call ((Below.refl _ (V3.alloc o)).alloc (Nat.le_refl _) o')).cells.1
    go_wp2_with fail
    change Calls Tryz.prog 13 _ (World.alloc (V3.alloc (.cells (rowC [(t1, d1, c1)]).toArray 57)) (.cells #[.int .i64 6, .int .i64 0, .int .i64 0, .int .i64 0, .int .i64 0, .string ⟨#[]⟩, .string ⟨#[]⟩, .string ⟨#[]⟩, .bool false, .slice (some ⟨V3.heap.size, 0, none⟩) 1 1, .slice none 0 0, .slice none 0 0, .slice none 0 0] 57)) _
    generalize World.alloc (V3.alloc (.cells (rowC [(t1, d1, c1)]).toArray 57)) (.cells #[.int .i64 6, .int .i64 0, .int .i64 0, .int .i64 0, .int .i64 0, .string ⟨#[]⟩, .string ⟨#[]⟩, .string ⟨#[]⟩, .bool false, .slice (some ⟨V3.heap.size, 0, none⟩) 1 1, .slice none 0 0, .slice none 0 0, .slice none 0 0] 57) = V4 at hG ⊢
    have hcount : countR [(t1, d1, c1)] ≤ 1 * C := by simp only [countR]; have := hX1.2; omega
    generalize hy : V3.heap.size + 1 = y at hG ⊢
    clear hS hX1 q0 q1 q2 q3 hy
    generalize (Value.slice (some ⟨V3.heap.size, 0, none⟩) 1 1) = v1 at hG
    refine (Tryz.rangeL hG.sc.live (by omega) 1 3 (by omega) (by omega) (by omega)).mono ?_
    rintro e V5 ⟨r, hr3, hr4, rfl, hL, hT⟩
    replace hG := hG.turn hT hL
    clear hL hT
    go_wp2_with fail
    go_loopw [61] (fun i wr => ∃ (q : Nat) (ts : List (Ex × Option Addr × Nat)) (v : Value) (b : Int), i = .int .i64 q ∧ (q : Int) ≤ r ∧ ts.length = q + 1 ∧ countR ts ≤ (q + 1) * C ∧ b ≤ a + 3 + K + q * K ∧ Cl P W.heap.size y ((n : Int) + 1) ⟨6, 0, 0, 0, 0, ⟨#[]⟩, ⟨#[]⟩, ⟨#[]⟩, false⟩ W wr b v ts) (fun i _ => r.toNat - (intOf i).toNat)
    case atStart => exact ⟨0, _, _, _, rfl, by omega, rfl, by simpa using hcount, by simp; omega, hG⟩
    case round =>
      obtain ⟨q, ts, v, b, rfl, hq, hts, hct, hb, hG'⟩ := hrel
      clear hG
      have hG := hG'
      clear hG'
      have hqK : (q : Int) * K ≤ 3 * K := Int.mul_le_mul_of_nonneg_right (by omega) hK
      have hqK2 : ((q + 1 : Nat) : Int) * K = q * K + K := by rw [Int.natCast_add, Int.add_mul]; omega
      have hqC : (q + 1 + 1) * C = (q + 1) * C + C := by rw [Nat.add_mul (q + 1)]; omega
      have hqC2 : (q + 1) * C ≤ 4 * C := Nat.mul_le_mul_right _ (by omega)
      by_cases hlt : (q : Int) < r
      · go_upto_region 17 with fail
        refine wp_region_held_drew (S := fun _ => True) (by kernel_rfl) trivial (fun hHeld => ?_)
        replace hG := hG.call (Below.refl _ wr).drew
        generalize World.drew wr = U0 at hG ⊢
        have hc := hG.cells.2.2.2.2.1
        refine wpAnyH_take (i := 0) (oi := ?ut1o) (v := .pointer (some ⟨y, 9, none⟩)) ?ut1h (by kernel_rfl) (by kernel_rfl) (by kernel_rfl) ?ut1q (Or.inl ⟨?ut1w, ?ut1y⟩) trivial ?ut1r
        case ut1h => rw [List.getElem?_toArray]; rfl
        case ut1q => exact fun _ _ _ h => h
        case ut1w => rfl
        case ut1y =>
          intro w hSw
          go_simp
        simp only [Act.put, List.setIfInBounds_toArray, List.set_cons_zero, List.set_cons_succ]
        refine wpAnyH_take (i := 2) (oi := ?ut2o) (v := .func (.func 154) #[] #[.pointer (some ⟨W.heap.size, 0, none⟩), .pointer (some ⟨W.heap.size + 1, 0, none⟩), .pointer (some ⟨W.heap.size + 1 + 1, 0, none⟩), .pointer (some ⟨W.heap.size + 1 + 1 + 1, 0, none⟩)]) ?ut2h (by kernel_rfl) (by kernel_rfl) (by kernel_rfl) ?ut2q (Or.inl ⟨?ut2w, ?ut2y⟩) trivial ?ut2r
        case ut2h => rw [List.getElem?_toArray]; rfl
        case ut2q => exact fun _ _ _ h => h
        case ut2w => rfl
        case ut2y =>
          intro w hSw
          go_simp
        simp only [Act.put, List.setIfInBounds_toArray, List.set_cons_zero, List.set_cons_succ]
        refine wpAnyH_take (i := 3) (oi := ?ut3o) (v := .int .i64 k) ?ut3h (by kernel_rfl) (by kernel_rfl) (by kernel_rfl) ?ut3q (Or.inl ⟨?ut3w, ?ut3y⟩) trivial ?ut3r
        case ut3h => rw [List.getElem?_toArray]; rfl
        case ut3q => exact fun _ _ _ h => h
        case ut3w => rfl
        case ut3y =>
          intro w hSw
          go_simp
        simp only [Act.put, List.setIfInBounds_toArray, List.set_cons_zero, List.set_cons_succ]
        refine wpAnyH_ready (rs := [1, 4]) (by kernel_rfl) (by simp) ?_
        refine AllReadyH.cons (o := ?ub4o) ?ub4h (fun K hK => ?ub4s) (AllReadyH.cons (o := ?ub5o) ?ub5h (fun K hK => ?ub5s) AllReadyH.nil)
        case ub4h => rw [List.getElem?_toArray]; rfl
        case ub5h => rw [List.getElem?_toArray]; rfl
        case ub4s =>
          go_simp
          refine hK.out _ _ trivial (fun hHeld => ?_)
          clear hK K
          try simp only [Act.put, List.setIfInBounds_toArray, List.set_cons_zero, List.set_cons_succ]
          refine wpAnyH_ready (rs := [4]) (by kernel_rfl) (by simp) ?_
          refine AllReadyH.cons (o := ?ub6o) ?ub6h (fun K hK => ?ub6s) AllReadyH.nil
          case ub6h => rw [List.getElem?_toArray]; rfl
          go_simp
          refine Calls.mono (Tryz.sub154 ih hG.sc (by omega) hn k ⟨hk1, hk2⟩) ?_
          rintro e U2 ⟨t2, d2, c2, b2, rfl, hX2, hb2, hL, hT⟩
          go_wp2_with fail
          refine hK.out _ _ trivial (fun hHeld => ?_)
          clear hK K
          have hsT := hT.size
          have hA2 := hX2.apart (B := W.heap.size) (y := y) (v := v) hG.sc.size (blk_lt hG.box) (fun k hk => (hG.row.own.lt k hk).2)
          have hn2 := hX2.2
          replace hG := hG.turn hT hL
          have hc := hG.cells.2.2.2.2.1
          clear hT hL hsT hX2
          simp only [Ex.v, Node.v, Node.cells]
          try simp only [Act.put, List.setIfInBounds_toArray, List.set_cons_zero, List.set_cons_succ]
          refine wpAnyH_ready (rs := [5]) (by kernel_rfl) (by simp) ?_
          refine AllReadyH.cons (o := ?ub7o) ?ub7h (fun K hK => ?ub7s) AllReadyH.nil
          case ub7h => rw [List.getElem?_toArray]; rfl
          have hcA := fun o => (hG.call ((Below.refl U2.heap.size U2).alloc (Nat.le_refl _) o)).cells.2.2.2.2.1
          go_simp
          refine hK.out _ _ trivial (fun hHeld => ?_)
          clear hK K
          try simp only [Act.put, List.setIfInBounds_toArray, List.set_cons_zero, List.set_cons_succ]
          refine wpAnyH_ready (rs := [6]) (by kernel_rfl) (by simp) ?_
          refine AllReadyH.cons (o := ?ub8o) ?ub8h (fun K hK => ?ub8s) AllReadyH.nil
          case ub8h => rw [List.getElem?_toArray]; rfl
          refine Eq.mpr (if_pos ?ux90) ?_
          case ux90 => rfl
          refine hG.append (.tmp 64) (.tmp 68) ?ux91 ?ux92 [(t2, d2, c2)] ?ux93 ?ux94 ?ux95 ?ux96 ?ux97
          case ux91 => rfl
          case ux92 => rfl
          case ux93 => exact (by intro t ht; simp only [List.mem_cons, List.not_mem_nil, or_false] at ht; subst ht; exact hA2)
          case ux94 => simp
          case ux95 => simp; omega
          case ux96 => rfl
          intro v' U' hN
          obtain ⟨hB2, hR2, hS2⟩ := hN _ rfl
          obtain ⟨gr, ln, cp, rfl⟩ := hR2.slice (by simp)
          have hge := hG.ge
          clear hG hcA hc hN
          have y9 := hB2.is.c9
          have z9 := hB2.froz 9
          refine hK.out _ _ trivial (fun hHeld => ?_)
          clear hK K
          try simp only [Act.put, List.setIfInBounds_toArray, List.set_cons_zero, List.set_cons_succ]
          refine wpAnyH_take (i := 7) (oi := ?ut10o) (v := .pointer (some ⟨y, 9, none⟩)) ?ut10h (by kernel_rfl) (by kernel_rfl) (by kernel_rfl) ?ut10q (Or.inl ⟨?ut10w, ?ut10y⟩) trivial ?ut10r
          case ut10h => rw [List.getElem?_toArray]; rfl
          case ut10q => exact fun _ _ _ h => h
          case ut10w => rfl
          case ut10y =>
            intro w hSw
            go_simp
          simp only [Act.put, List.setIfInBounds_toArray, List.set_cons_zero, List.set_cons_succ]
          refine wpAnyH_ready (rs := [8]) (by kernel_rfl) (by simp) ?_
          refine AllReadyH.cons (o := ?ub11o) ?ub11h (fun K hK => ?ub11s) AllReadyH.nil
          case ub11h => rw [List.getElem?_toArray]; rfl
          go_simp
          have hG := Cl.stored hge hB2 hR2 hS2
          clear hB2 hR2 hS2 y9 z9 hge
          refine hK.out _ _ trivial (fun hHeld => ?_)
          clear hK K
          try simp only [Act.put, List.setIfInBounds_toArray, List.set_cons_zero, List.set_cons_succ]
          generalize World.setCell U' ⟨y, 9, none⟩ (.slice (some ⟨gr, 0, none⟩) ln cp) = U'' at hG ⊢
          refine wpAnyH_done (by kernel_rfl) ?_ _
          go_wp2_with fail
          go_roundw
          case rel => exact ⟨q + 1, _, _, _, by go_num, by omega, by simp; omega, by rw [countR_append]; simp only [countR]; omega, by omega, hG⟩
          case measure => simp [intOf]; omega
        case ub5s =>
          go_simp
          refine Calls.mono (Tryz.sub154 ih hG.sc (by omega) hn k ⟨hk1, hk2⟩) ?_
          rintro e U2 ⟨t2, d2, c2, b2, rfl, hX2, hb2, hL, hT⟩
          go_wp2_with fail
          refine hK.out _ _ trivial (fun hHeld => ?_)
          clear hK K
          have hsT := hT.size
          have hA2 := hX2.apart (B := W.heap.size) (y := y) (v := v) hG.sc.size (blk_lt hG.box) (fun k hk => (hG.row.own.lt k hk).2)
          have hn2 := hX2.2
          replace hG := hG.turn hT hL
          have hc := hG.cells.2.2.2.2.1
          clear hT hL hsT hX2
          simp only [Ex.v, Node.v, Node.cells]
          try simp only [Act.put, List.setIfInBounds_toArray, List.set_cons_zero, List.set_cons_succ]
          refine wpAnyH_ready (rs := [1, 5]) (by kernel_rfl) (by simp) ?_
          refine AllReadyH.cons (o := ?ub12o) ?ub12h (fun K hK => ?ub12s) (AllReadyH.cons (o := ?ub13o) ?ub13h (fun K hK => ?ub13s) AllReadyH.nil)
          case ub12h => rw [List.getElem?_toArray]; rfl
          case ub13h => rw [List.getElem?_toArray]; rfl
          case ub12s =>
            go_simp
            refine hK.out _ _ trivial (fun hHeld => ?_)
            clear hK K
            try simp only [Act.put, List.setIfInBounds_toArray, List.set_cons_zero, List.set_cons_succ]
            refine wpAnyH_ready (rs := [5]) (by kernel_rfl) (by simp) ?_
            refine AllReadyH.cons (o := ?ub14o) ?ub14h (fun K hK => ?ub14s) AllReadyH.nil
            case ub14h => rw [List.getElem?_toArray]; rfl
            have hcA := fun o => (hG.call ((Below.refl U2.heap.size U2).alloc (Nat.le_refl _) o)).cells.2.2.2.2.1
            go_simp
            refine hK.out _ _ trivial (fun hHeld => ?_)
            clear hK K
            try simp only [Act.put, List.setIfInBounds_toArray, List.set_cons_zero, List.set_cons_succ]
            refine wpAnyH_ready (rs := [6]) (by kernel_rfl) (by simp) ?_
            refine AllReadyH.cons (o := ?ub15o) ?ub15h (fun K hK => ?ub15s) AllReadyH.nil
            case ub15h => rw [List.getElem?_toArray]; rfl
            refine Eq.mpr (if_pos ?ux160) ?_
            case ux160 => rfl
            refine hG.append (.tmp 64) (.tmp 68) ?ux161 ?ux162 [(t2, d2, c2)] ?ux163 ?ux164 ?ux165 ?ux166 ?ux167
            case ux161 => rfl
            case ux162 => rfl
            case ux163 => exact (by intro t ht; simp only [List.mem_cons, List.not_mem_nil, or_false] at ht; subst ht; exact hA2)
            case ux164 => simp
            case ux165 => simp; omega
            case ux166 => rfl
            intro v' U' hN
            obtain ⟨hB2, hR2, hS2⟩ := hN _ rfl
            obtain ⟨gr, ln, cp, rfl⟩ := hR2.slice (by simp)
            have hge := hG.ge
            clear hG hcA hc hN
            have y9 := hB2.is.c9
            have z9 := hB2.froz 9
            refine hK.out _ _ trivial (fun hHeld => ?_)
            clear hK K
            try simp only [Act.put, List.setIfInBounds_toArray, List.set_cons_zero, List.set_cons_succ]
            refine wpAnyH_take (i := 7) (oi := ?ut17o) (v := .pointer (some ⟨y, 9, none⟩)) ?ut17h (by kernel_rfl) (by kernel_rfl) (by kernel_rfl) ?ut17q (Or.inl ⟨?ut17w, ?ut17y⟩) trivial ?ut17r
            case ut17h => rw [List.getElem?_toArray]; rfl
            case ut17q => exact fun _ _ _ h => h
            case ut17w => rfl
            case ut17y =>
              intro w hSw
              go_simp
            simp only [Act.put, List.setIfInBounds_toArray, List.set_cons_zero, List.set_cons_succ]
            refine wpAnyH_ready (rs := [8]) (by kernel_rfl) (by simp) ?_
            refine AllReadyH.cons (o := ?ub18o) ?ub18h (fun K hK => ?ub18s) AllReadyH.nil
            case ub18h => rw [List.getElem?_toArray]; rfl
            go_simp
            have hG := Cl.stored hge hB2 hR2 hS2
            clear hB2 hR2 hS2 y9 z9 hge
            refine hK.out _ _ trivial (fun hHeld => ?_)
            clear hK K
            try simp only [Act.put, List.setIfInBounds_toArray, List.set_cons_zero, List.set_cons_succ]
            generalize World.setCell U' ⟨y, 9, none⟩ (.slice (some ⟨gr, 0, none⟩) ln cp) = U'' at hG ⊢
            refine wpAnyH_done (by kernel_rfl) ?_ _
            go_wp2_with fail
            go_roundw
            case rel => exact ⟨q + 1, _, _, _, by go_num, by omega, by simp; omega, by rw [countR_append]; simp only [countR]; omega, by omega, hG⟩
            case measure => simp [intOf]; omega
          case ub13s =>
            have hcA := fun o => (hG.call ((Below.refl U2.heap.size U2).alloc (Nat.le_refl _) o)).cells.2.2.2.2.1
            go_simp
            refine hK.out _ _ trivial (fun hHeld => ?_)
            clear hK K
            try simp only [Act.put, List.setIfInBounds_toArray, List.set_cons_zero, List.set_cons_succ]
            refine wpAnyH_ready (rs := [1]) (by kernel_rfl) (by simp) ?_
            refine AllReadyH.cons (o := ?ub19o) ?ub19h (fun K hK => ?ub19s) AllReadyH.nil
            case ub19h => rw [List.getElem?_toArray]; rfl
            go_simp
            refine hK.out _ _ trivial (fun hHeld => ?_)
            clear hK K
            try simp only [Act.put, List.setIfInBounds_toArray, List.set_cons_zero, List.set_cons_succ]
            refine wpAnyH_ready (rs := [6]) (by kernel_rfl) (by simp) ?_
            refine AllReadyH.cons (o := ?ub20o) ?ub20h (fun K hK => ?ub20s) AllReadyH.nil
            case ub20h => rw [List.getElem?_toArray]; rfl
            refine Eq.mpr (if_pos ?ux210) ?_
            case ux210 => rfl
            refine hG.append (.tmp 64) (.tmp 68) ?ux211 ?ux212 [(t2, d2, c2)] ?ux213 ?ux214 ?ux215 ?ux216 ?ux217
            case ux211 => rfl
            case ux212 => rfl
            case ux213 => exact (by intro t ht; simp only [List.mem_cons, List.not_mem_nil, or_false] at ht; subst ht; exact hA2)
            case ux214 => simp
            case ux215 => simp; omega
            case ux216 => rfl
            intro v' U' hN
            obtain ⟨hB2, hR2, hS2⟩ := hN _ rfl
            obtain ⟨gr, ln, cp, rfl⟩ := hR2.slice (by simp)
            have hge := hG.ge
            clear hG hcA hc hN
            have y9 := hB2.is.c9
            have z9 := hB2.froz 9
            refine hK.out _ _ trivial (fun hHeld => ?_)
            clear hK K
            try simp only [Act.put, List.setIfInBounds_toArray, List.set_cons_zero, List.set_cons_succ]
            refine wpAnyH_take (i := 7) (oi := ?ut22o) (v := .pointer (some ⟨y, 9, none⟩)) ?ut22h (by kernel_rfl) (by kernel_rfl) (by kernel_rfl) ?ut22q (Or.inl ⟨?ut22w, ?ut22y⟩) trivial ?ut22r
            case ut22h => rw [List.getElem?_toArray]; rfl
            case ut22q => exact fun _ _ _ h => h
            case ut22w => rfl
            case ut22y =>
              intro w hSw
              go_simp
            simp only [Act.put, List.setIfInBounds_toArray, List.set_cons_zero, List.set_cons_succ]
            refine wpAnyH_ready (rs := [8]) (by kernel_rfl) (by simp) ?_
            refine AllReadyH.cons (o := ?ub23o) ?ub23h (fun K hK => ?ub23s) AllReadyH.nil
            case ub23h => rw [List.getElem?_toArray]; rfl
            go_simp
            have hG := Cl.stored hge hB2 hR2 hS2
            clear hB2 hR2 hS2 y9 z9 hge
            refine hK.out _ _ trivial (fun hHeld => ?_)
            clear hK K
            try simp only [Act.put, List.setIfInBounds_toArray, List.set_cons_zero, List.set_cons_succ]
            generalize World.setCell U' ⟨y, 9, none⟩ (.slice (some ⟨gr, 0, none⟩) ln cp) = U'' at hG ⊢
            refine wpAnyH_done (by kernel_rfl) ?_ _
            go_wp2_with fail
            go_roundw
            case rel => exact ⟨q + 1, _, _, _, by go_num, by omega, by simp; omega, by rw [countR_append]; simp only [countR]; omega, by omega, hG⟩
            case measure => simp [intOf]; omega
      · have hrq : r ≤ 3 := by omega
        have hS := hG.sc
        have hYB := hG.box
        obtain ⟨gr, cap, rfl, hR⟩ := hG.row.tree (C := 5 * C + 1) (by omega) (by omega) ⟨6, 0, 0, 0, 0, ⟨#[]⟩, ⟨#[]⟩, ⟨#[]⟩, false⟩ ⟨Nat.zero_le _, Nat.zero_le _, Nat.zero_le _⟩ (by omega)
        obtain ⟨x0, x1, x2, x3, x4, x5, x6, x7, x8, x9, x10, x11, x12⟩ := hYB.is
        obtain ⟨q0, q1, q2, q3⟩ := hS.cells
        clear hYB
        have hF := Out.fin (a := a) (K := 5 * K + 20) hS.turns hS.live hR hS.res (Nat.le_add_right _ _) (by omega) hg (by omega)
        obtain ⟨c0, c1, c2, c3, c4, c5, c6, c7, c8, c9, c10, c11, c12⟩ := hS.res.is
        obtain ⟨f0, f1, f2, f3, f4, f5, f6, f7, f8, f9, f10, f11, f12⟩ := hS.res.frozs
        simp only [Ex.v, Ex.node, Ex.args, List.length_map, Node.v, Node.cells] at hF
        clear hG hct hts
        go_wp2_with fail
        exact bodyPost_ret (res_box13 Tryz.results115 rfl hF.2) rfl (hF.1.wide (by omega) (by omega))
  have e0 : (r == 0) = false := by simpa using r0
  have e1 : (r == 1) = false := by simpa using r1
  have e2 : (r == 2) = false := by simpa using r2
  have e3 : (r == 3) = false := by simpa using r3
  have e4 : (r == 4) = false := by simpa using r4
  have e5 : (r == 5) = false := by simpa using r5
  go_wp2_with fail
  refine (Tryz.kindL hS.live (by omega)).mono ?_
  rintro e V2 ⟨k, hk1, hk2, rfl, hL, hT⟩
  replace hS := hS.turn hT hL
  obtain ⟨q0, q1, q2, q3⟩ := hS.cells
  clear hL hT
  go_wp2_with fail
  refine (Tryz.rangeL hS.live (by omega) 4 10 (by omega) (by omega) (by omega)).mono ?_
  rintro e V3 ⟨z, hz1, hz2, rfl, hL, hT⟩
  replace hS := hS.turn hT hL
  obtain ⟨q0, q1, q2, q3⟩ := hS.cells
  clear hL hT
  go_wp2_with fail
  refine Calls.mono (Tryz.sub154 ih hS (by omega) hn k ⟨hk1, hk2⟩) ?_
  rintro e V4 ⟨t1, d1, c1, b1, rfl, hX1, hb1, hL, hT⟩
  replace hX1 := hX1.less (Nat.le_refl _) hS.size
  replace hS := hS.turn hT hL
  obtain ⟨q0, q1, q2, q3⟩ := hS.cells
  clear hL hT
  simp only [Ex.v, Node.v, Node.cells]
  go_wp2_with fail
  refine Calls.mono (Tryz.sub154 ih hS (by omega) hn k ⟨hk1, hk2⟩) ?_
  rintro e V5 ⟨t2, d2, c2, b2, rfl, hX2, hb2, hL, hT⟩
  replace hX2 := hX2.less (Nat.le_refl _) hS.size
  replace hX1 := hX1.turn hT (by have := hS.size; omega)
  replace hS := hS.turn hT hL
  obtain ⟨q0, q1, q2, q3⟩ := hS.cells
  clear hL hT
  simp only [Ex.v, Node.v, Node.cells]
  go_wp2_with fail
  have hR := TreeAt.row2 (opX z) (opX_ok _) hX1 hX2 (Nat.le_refl _) hS.size
  have hAl := (Below.refl (V5).heap.size V5).alloc (Nat.le_refl _) (.cells (rowC [(t1, d1, c1), (t2, d2, c2)]).toArray 57)
  replace hS := hS.call hAl
  clear hX1 hX2 hAl
  refine (Tryz.oper z _ 2 2 _).mono ?_
  rintro e V6 ⟨rfl, hbO⟩
  replace hR := hR.call hbO
  replace hS := hS.call hbO
  obtain ⟨q0, q1, q2, q3⟩ := hS.cells
  simp only [Node.v, Node.cells]
  clear hbO
  have hF := Out.fin (a := a) (K := 5 * K + 20) hS.turns hS.live hR hS.res (Nat.le_add_right _ _) (by omega) hg (by omega)
  obtain ⟨c0, c1, c2, c3, c4, c5, c6, c7, c8, c9, c10, c11, c12⟩ := hS.res.is
  obtain ⟨f0, f1, f2, f3, f4, f5, f6, f7, f8, f9, f10, f11, f12⟩ := hS.res.frozs
  simp only [Ex.v, Ex.node, Ex.args, List.length_cons, List.length_nil, Node.v, Node.cells, opX] at hF
  go_wp2_with fail
  exact bodyPost_ret (res_box13 Tryz.results115 rfl hF.2) rfl (hF.1.wide (by omega) (by omega))

end Go.Proofs
