/- Of package dumbmake: trees that are numbers. No condition. -/
import Derived.Test.YtkpligcifakmjaaGreatDoorTree
namespace Go.Proofs
open Go.RowKit Go.Ke

set_option maxRecDepth 20000 in
set_option maxHeartbeats 2000000 in
theorem Tryz.sub113 {P : Pm} {n C : Nat} {K M : Int} (ih : ScC P n C K M) {B : Nat} {w W : World} {a : Int} (h : Sc P B ((n : Int) + 1) w W a) (ha : a ≤ M) (hn : n ≤ 100) (k : Int) (hk : 1 ≤ k ∧ k ≤ 4) :
    Calls Tryz.prog 113 #[.int .i64 k, .pointer (some ⟨B, 0, none⟩), .pointer (some ⟨B + 1, 0, none⟩), .pointer (some ⟨B + 2, 0, none⟩), .pointer (some ⟨B + 3, 0, none⟩)] W (Out P C K a W) := by
  have hg := h.live.lt
  have hA := (Below.refl W.heap.size W).alloc (Nat.le_refl _) (.cells (zeroX.cells (.slice none 0 0)) 57)
  have h1 := h.call hA
  have hB1 : Box (W.alloc (.cells (zeroX.cells (.slice none 0 0)) 57)) W.heap.size zeroX (.slice none 0 0) := Box.new _ _ _
  have hsz := ex_alloc_size W (.cells (zeroX.cells (.slice none 0 0)) 57)
  have hT1 := Turns.of hA (Nat.le_of_lt hg)
  unfold zeroX Node.cells at hA h1 hB1 hsz hT1
  unfold Box at hB1
  obtain ⟨q0, q1, q2, q3⟩ := h1.cells
  go_enter Tryz.func113, Tryz.ntmps113
  go_upto_region 1 with fail
  generalize (W.alloc (.cells _ 57)) = W1 at hA h1 hB1 hsz hT1 q0 q1 q2 q3 ⊢
  replace hsz : W.heap.size < W1.heap.size := by omega
  go_wp2_with fail
  refine Calls.mono (ih W1 a k h1.gen ha hk.1 hk.2) ?_
  rintro e W2 ⟨t, ad, cap, b, rfl, hX, hb, hL2, hT2⟩
  have hB2 : Box W2 W.heap.size ⟨0, 0, 0, 0, 0, ⟨#[]⟩, ⟨#[]⟩, ⟨#[]⟩, false⟩ (.slice none 0 0) := hT2.block hB1 (by omega)
  obtain ⟨c0, c1, c2, c3, c4, c5, c6, c7, c8, c9, c10, c11, c12⟩ := hB2.is
  obtain ⟨f0, f1, f2, f3, f4, f5, f6, f7, f8, f9, f10, f11, f12⟩ := hB2.frozs
  have hF := Out.fin (R := W.heap.size) (a := a) (K := K) (hT1.trans hT2) hL2 hX hB2 (Nat.le_refl _) hsz hg hb
  simp only [Ex.v, Node.v, Node.cells] at hF ⊢
  go_wp2_with fail
  exact bodyPost_ret (res_box13 Tryz.results113 rfl hF.2) rfl hF.1

set_option maxRecDepth 20000 in
set_option maxHeartbeats 2000000 in
theorem Tryz.sub154 {P : Pm} {n C : Nat} {K M : Int} (ih : ScC P n C K M) {B : Nat} {w W : World} {a : Int} (h : Sc P B ((n : Int) + 1) w W a) (ha : a ≤ M) (hn : n ≤ 100) (k : Int) (hk : 1 ≤ k ∧ k ≤ 4) :
    Calls Tryz.prog 154 #[.int .i64 k, .pointer (some ⟨B, 0, none⟩), .pointer (some ⟨B + 1, 0, none⟩), .pointer (some ⟨B + 2, 0, none⟩), .pointer (some ⟨B + 3, 0, none⟩)] W (Out P C K a W) := by
  have hg := h.live.lt
  have hA := (Below.refl W.heap.size W).alloc (Nat.le_refl _) (.cells (zeroX.cells (.slice none 0 0)) 57)
  have h1 := h.call hA
  have hB1 : Box (W.alloc (.cells (zeroX.cells (.slice none 0 0)) 57)) W.heap.size zeroX (.slice none 0 0) := Box.new _ _ _
  have hsz := ex_alloc_size W (.cells (zeroX.cells (.slice none 0 0)) 57)
  have hT1 := Turns.of hA (Nat.le_of_lt hg)
  unfold zeroX Node.cells at hA h1 hB1 hsz hT1
  unfold Box at hB1
  obtain ⟨q0, q1, q2, q3⟩ := h1.cells
  go_enter Tryz.func154, Tryz.ntmps154
  go_upto_region 1 with fail
  generalize (W.alloc (.cells _ 57)) = W1 at hA h1 hB1 hsz hT1 q0 q1 q2 q3 ⊢
  replace hsz : W.heap.size < W1.heap.size := by omega
  go_wp2_with fail
  refine Calls.mono (ih W1 a k h1.gen ha hk.1 hk.2) ?_
  rintro e W2 ⟨t, ad, cap, b, rfl, hX, hb, hL2, hT2⟩
  have hB2 : Box W2 W.heap.size ⟨0, 0, 0, 0, 0, ⟨#[]⟩, ⟨#[]⟩, ⟨#[]⟩, false⟩ (.slice none 0 0) := hT2.block hB1 (by omega)
  obtain ⟨c0, c1, c2, c3, c4, c5, c6, c7, c8, c9, c10, c11, c12⟩ := hB2.is
  obtain ⟨f0, f1, f2, f3, f4, f5, f6, f7, f8, f9, f10, f11, f12⟩ := hB2.frozs
  have hF := Out.fin (R := W.heap.size) (a := a) (K := K) (hT1.trans hT2) hL2 hX hB2 (Nat.le_refl _) hsz hg hb
  simp only [Ex.v, Node.v, Node.cells] at hF ⊢
  go_wp2_with fail
  exact bodyPost_ret (res_box13 Tryz.results154 rfl hF.2) rfl hF.1

set_option maxRecDepth 20000 in
set_option maxHeartbeats 2000000 in
theorem Tryz.sub155 {P : Pm} {n C : Nat} {K M : Int} (ih : ScC P n C K M) {B : Nat} {w W : World} {a : Int} (h : Sc P B ((n : Int) + 1) w W a) (ha : a ≤ M) (hn : n ≤ 100) (k : Int) (hk : 1 ≤ k ∧ k ≤ 4) :
    Calls Tryz.prog 155 #[.int .i64 k, .pointer (some ⟨B, 0, none⟩), .pointer (some ⟨B + 1, 0, none⟩), .pointer (some ⟨B + 2, 0, none⟩), .pointer (some ⟨B + 3, 0, none⟩)] W (Out P C K a W) := by
  have hg := h.live.lt
  have hA := (Below.refl W.heap.size W).alloc (Nat.le_refl _) (.cells (zeroX.cells (.slice none 0 0)) 57)
  have h1 := h.call hA
  have hB1 : Box (W.alloc (.cells (zeroX.cells (.slice none 0 0)) 57)) W.heap.size zeroX (.slice none 0 0) := Box.new _ _ _
  have hsz := ex_alloc_size W (.cells (zeroX.cells (.slice none 0 0)) 57)
  have hT1 := Turns.of hA (Nat.le_of_lt hg)
  unfold zeroX Node.cells at hA h1 hB1 hsz hT1
  unfold Box at hB1
  obtain ⟨q0, q1, q2, q3⟩ := h1.cells
  go_enter Tryz.func155, Tryz.ntmps155
  go_upto_region 1 with fail
  generalize (W.alloc (.cells _ 57)) = W1 at hA h1 hB1 hsz hT1 q0 q1 q2 q3 ⊢
  replace hsz : W.heap.size < W1.heap.size := by omega
  go_wp2_with fail
  refine Calls.mono (ih W1 a k h1.gen ha hk.1 hk.2) ?_
  rintro e W2 ⟨t, ad, cap, b, rfl, hX, hb, hL2, hT2⟩
  have hB2 : Box W2 W.heap.size ⟨0, 0, 0, 0, 0, ⟨#[]⟩, ⟨#[]⟩, ⟨#[]⟩, false⟩ (.slice none 0 0) := hT2.block hB1 (by omega)
  obtain ⟨c0, c1, c2, c3, c4, c5, c6, c7, c8, c9, c10, c11, c12⟩ := hB2.is
  obtain ⟨f0, f1, f2, f3, f4, f5, f6, f7, f8, f9, f10, f11, f12⟩ := hB2.frozs
  have hF := Out.fin (R := W.heap.size) (a := a) (K := K) (hT1.trans hT2) hL2 hX hB2 (Nat.le_refl _) hsz hg hb
  simp only [Ex.v, Node.v, Node.cells] at hF ⊢
  go_wp2_with fail
  exact bodyPost_ret (res_box13 Tryz.results155 rfl hF.2) rfl hF.1

end Go.Proofs

namespace Go.Proofs
open Go.RowKit Go.Ke

theorem Out.wide {P : Pm} {C D : Nat} {K M a : Int} {W W' : World} {e : Ending} (h : Out P C K a W e W') (hC : C ≤ D) (hK : K ≤ M) : Out P D M a W e W' := by
  obtain ⟨t, ad, cap, b, h1, h2, h3, h4, h5⟩ := h
  exact ⟨t, ad, cap, b, h1, h2.less hC (Nat.le_refl _), by omega, h4, h5⟩

set_option maxRecDepth 20000 in
set_option maxHeartbeats 4000000 in
theorem Tryz.number {P : Pm} {n C : Nat} {K M : Int} (ih : ScC P n C K M) (hn : n ≤ 100) (hK : 0 ≤ K) (hC : 1 ≤ C) (hM : M ≤ 60000) {W : World} {a : Int} (h : Gen P W a) (ha : a + 5 * K + 40 ≤ M) :
    Calls Tryz.prog 116 #[.pointer (some ⟨P.g, 0, none⟩), .slice P.cad P.cs.length P.cc, .slice P.pad P.ps.length P.pc, .int .i64 ((n : Int) + 1)] W (Out P (5 * C + 1) (5 * K + 20) a W) := by
  have hg := h.live.lt
  have hS := Sc.start h ((n : Int) + 1)
  unfold zeroX Node.cells at hS
  go_enter Tryz.func116, Tryz.ntmps116
  go_upto_region 1 with fail
  generalize (World.alloc _ (.cells _ 57)) = W0 at hS ⊢
  obtain ⟨q0, q1, q2, q3⟩ := hS.cells
  go_wp2_with fail
  refine (Tryz.nextL hS.live (by omega) 6 (by omega) (by omega)).mono ?_
  rintro e V1 ⟨r, hr1, hr2, rfl, hL, hT⟩
  replace hS := hS.turn hT hL
  obtain ⟨q0, q1, q2, q3⟩ := hS.cells
  clear hL hT
  by_cases r0 : r = 0
  · subst r0
    go_wp2_with fail
    refine Calls.mono (Tryz.sub155 ih hS (by omega) hn 2 (by omega)) ?_
    rintro e V2 ⟨t1, d1, c1, b1, rfl, hX1, hb1, hL, hT⟩
    replace hX1 := hX1.less (Nat.le_refl _) hS.size
    replace hS := hS.turn hT hL
    obtain ⟨q0, q1, q2, q3⟩ := hS.cells
    clear hL hT
    simp only [Ex.v, Node.v, Node.cells]
    go_wp2_with fail
    have hR := TreeAt.row1 (opX 17) (opX_ok _) hX1 (Nat.le_refl _) hS.size
    have hAl := (Below.refl (V2).heap.size V2).alloc (Nat.le_refl _) (.cells (rowC [(t1, d1, c1)]).toArray 57)
    replace hS := hS.call hAl
    clear hX1 hAl
    refine (Tryz.oper 17 _ 1 1 _).mono ?_
    rintro e V3 ⟨rfl, hbO⟩
    replace hR := hR.call hbO
    replace hS := hS.call hbO
    obtain ⟨q0, q1, q2, q3⟩ := hS.cells
    simp only [Node.v, Node.cells]
    clear hbO
    have hF := Out.fin (a := a) (K := 5 * K + 20) hS.turns hS.live hR hS.res (Nat.le_add_right _ _) (by omega) hg (by omega)
    obtain ⟨c0, c1, c2, c3, c4, c5, c6, c7, c8, c9, c10, c11, c12⟩ := hS.res.is
    obtain ⟨f0, f1, f2, f3, f4, f5, f6, f7, f8, f9, f10, f11, f12⟩ := hS.res.frozs
    simp only [Ex.v, Ex.node, Ex.args, List.length_cons, List.length_nil, Node.v, Node.cells, opX] at hF
    go_wp2_with fail
    exact bodyPost_ret (res_box13 Tryz.results116 rfl hF.2) rfl (hF.1.wide (by omega) (by omega))
  by_cases r1 : r = 1
  · subst r1
    go_wp2_with fail
    refine Calls.mono (Tryz.sub155 ih hS (by omega) hn 3 (by omega)) ?_
    rintro e V2 ⟨t1, d1, c1, b1, rfl, hX1, hb1, hL, hT⟩
    replace hX1 := hX1.less (Nat.le_refl _) hS.size
    replace hS := hS.turn hT hL
    obtain ⟨q0, q1, q2, q3⟩ := hS.cells
    clear hL hT
    simp only [Ex.v, Node.v, Node.cells]
    go_wp2_with fail
    have hR := TreeAt.row1 (opX 22) (opX_ok _) hX1 (Nat.le_refl _) hS.size
    have hAl := (Below.refl (V2).heap.size V2).alloc (Nat.le_refl _) (.cells (rowC [(t1, d1, c1)]).toArray 57)
    replace hS := hS.call hAl
    clear hX1 hAl
    refine (Tryz.oper 22 _ 1 1 _).mono ?_
    rintro e V3 ⟨rfl, hbO⟩
    replace hR := hR.call hbO
    replace hS := hS.call hbO
    obtain ⟨q0, q1, q2, q3⟩ := hS.cells
    simp only [Node.v, Node.cells]
    clear hbO
    have hF := Out.fin (a := a) (K := 5 * K + 20) hS.turns hS.live hR hS.res (Nat.le_add_right _ _) (by omega) hg (by omega)
    obtain ⟨c0, c1, c2, c3, c4, c5, c6, c7, c8, c9, c10, c11, c12⟩ := hS.res.is
    obtain ⟨f0, f1, f2, f3, f4, f5, f6, f7, f8, f9, f10, f11, f12⟩ := hS.res.frozs
    simp only [Ex.v, Ex.node, Ex.args, List.length_cons, List.length_nil, Node.v, Node.cells, opX] at hF
    go_wp2_with fail
    exact bodyPost_ret (res_box13 Tryz.results116 rfl hF.2) rfl (hF.1.wide (by omega) (by omega))
  by_cases r2 : r = 2
  · subst r2
    go_wp2_with fail
    refine Calls.mono (Tryz.sub155 ih hS (by omega) hn 4 (by omega)) ?_
    rintro e V2 ⟨t1, d1, c1, b1, rfl, hX1, hb1, hL, hT⟩
    replace hX1 := hX1.less (Nat.le_refl _) hS.size
    replace hS := hS.turn hT hL
    obtain ⟨q0, q1, q2, q3⟩ := hS.cells
    clear hL hT
    simp only [Ex.v, Node.v, Node.cells]
    go_wp2_with fail
    have hR := TreeAt.row1 (opX 26) (opX_ok _) hX1 (Nat.le_refl _) hS.size
    have hAl := (Below.refl (V2).heap.size V2).alloc (Nat.le_refl _) (.cells (rowC [(t1, d1, c1)]).toArray 57)
    replace hS := hS.call hAl
    clear hX1 hAl
    refine (Tryz.oper 26 _ 1 1 _).mono ?_
    rintro e V3 ⟨rfl, hbO⟩
    replace hR := hR.call hbO
    replace hS := hS.call hbO
    obtain ⟨q0, q1, q2, q3⟩ := hS.cells
    simp only [Node.v, Node.cells]
    clear hbO
    have hY := heap_alloc_new V3 (.cells #[.int .i64 4, .int .i64 26, .int .i64 0, .int .i64 0, .int .i64 0, .string ⟨#[]⟩, .string ⟨#[]⟩, .string ⟨#[]⟩, .bool false, .slice (some ⟨(V2).heap.size, 0, none⟩) 1 1, .slice none 0 0, .slice none 0 0, .slice none 0 0] 57)
    have hAl := (Below.refl (V3).heap.size V3).alloc (Nat.le_refl _) (.cells #[.int .i64 4, .int .i64 26, .int .i64 0, .int .i64 0, .int .i64 0, .string ⟨#[]⟩, .string ⟨#[]⟩, .string ⟨#[]⟩, .bool false, .slice (some ⟨(V2).heap.size, 0, none⟩) 1 1, .slice none 0 0, .slice none 0 0, .slice none 0 0] 57)
    have hV := hS.size
    have hPg : P.g < (V3).heap.size := hS.live.lt
    have hsA := ex_alloc_size V3 (.cells #[.int .i64 4, .int .i64 26, .int .i64 0, .int .i64 0, .int .i64 0, .string ⟨#[]⟩, .string ⟨#[]⟩, .string ⟨#[]⟩, .bool false, .slice (some ⟨(V2).heap.size, 0, none⟩) 1 1, .slice none 0 0, .slice none 0 0, .slice none 0 0] 57)
    replace hS := hS.call hAl
    obtain ⟨q0, q1, q2, q3⟩ := hS.cells
    clear hAl
    go_wp2_with fail
    have hkA : ∀ p, p < (V3).heap.size → (World.alloc V3 (.cells #[.int .i64 4, .int .i64 26, .int .i64 0, .int .i64 0, .int .i64 0, .string ⟨#[]⟩, .string ⟨#[]⟩, .string ⟨#[]⟩, .bool false, .slice (some ⟨(V2).heap.size, 0, none⟩) 1 1, .slice none 0 0, .slice none 0 0, .slice none 0 0] 57)).heap[p]? = (V3).heap[p]? := fun p hp => heap_alloc_old _ _ hp
    generalize World.alloc V3 (.cells #[.int .i64 4, .int .i64 26, .int .i64 0, .int .i64 0, .int .i64 0, .string ⟨#[]⟩, .string ⟨#[]⟩, .string ⟨#[]⟩, .bool false, .slice (some ⟨(V2).heap.size, 0, none⟩) 1 1, .slice none 0 0, .slice none 0 0, .slice none 0 0] 57) = V4 at hS hY hkA hsA q0 q1 q2 q3 ⊢
    refine (Tryz.rangeL hS.live (by omega) 1 6 (by omega) (by omega) (by omega)).mono ?_
    rintro e V5 ⟨z, hz1, hz2, rfl, hL, hT⟩
    replace hY := hT.block hY (by omega)
    have hkA2 : ∀ p, p < (V3).heap.size → p ≠ P.g → (V5).heap[p]? = (V3).heap[p]? := fun p hp hpg => (hT.same p (by omega) hpg).trans (hkA p hp)
    clear hkA
    have hkA := hkA2
    clear hkA2
    replace hS := hS.turn hT hL
    obtain ⟨q0, q1, q2, q3⟩ := hS.cells
    clear hL hT
    have hYB : Box V5 (V3).heap.size ⟨4, 26, 0, 0, 0, ⟨#[]⟩, ⟨#[]⟩, ⟨#[]⟩, false⟩ (.slice (some ⟨(V2).heap.size, 0, none⟩) 1 1) := hY
    have y2 := hYB.is.c2
    have z2 := hYB.froz 2
    go_upto_region 10 with fail
    have hY2 := block_set (i := 2) (v := .int .i64 z) hY
    replace hS := hS.set (b := (V3).heap.size) (i := 2) (v := .int .i64 z) (by omega)
    obtain ⟨q0, q1, q2, q3⟩ := hS.cells
    have hk2 : ∀ p, p < (V3).heap.size → p ≠ P.g → (World.setCell V5 ⟨(V3).heap.size, 2, none⟩ (.int .i64 z)).heap[p]? = (V3).heap[p]? := fun p hp hpg => (block_set_ne (by omega)).trans (hkA p hp hpg)
    have hs2 : (V3).heap.size ≤ (World.setCell V5 ⟨(V3).heap.size, 2, none⟩ (.int .i64 z)).heap.size := by rw [size_set]; have := blk_lt hY; omega
    generalize World.setCell V5 ⟨(V3).heap.size, 2, none⟩ (.int .i64 z) = V6 at hS hY2 hk2 hs2 q0 q1 q2 q3 ⊢
    clear hY hYB y2 z2 hkA
    replace hR := (hR.via hs2 (fun p h1 h2 => hk2 p h2 (by omega))).node (y := ⟨4, 26, z, 0, 0, ⟨#[]⟩, ⟨#[]⟩, ⟨#[]⟩, false⟩) ⟨Nat.zero_le _, Nat.zero_le _, Nat.zero_le _⟩
    have hYB : Box V6 (V3).heap.size ⟨4, 26, z, 0, 0, ⟨#[]⟩, ⟨#[]⟩, ⟨#[]⟩, false⟩ (.slice (some ⟨(V2).heap.size, 0, none⟩) 1 1) := hY2
    obtain ⟨x0, x1, x2, x3, x4, x5, x6, x7, x8, x9, x10, x11, x12⟩ := hYB.is
    clear hY2 hk2 hs2
    have hF := Out.fin (a := a) (K := 5 * K + 20) hS.turns hS.live hR hS.res (Nat.le_add_right _ _) (by omega) hg (by omega)
    obtain ⟨c0, c1, c2, c3, c4, c5, c6, c7, c8, c9, c10, c11, c12⟩ := hS.res.is
    obtain ⟨f0, f1, f2, f3, f4, f5, f6, f7, f8, f9, f10, f11, f12⟩ := hS.res.frozs
    simp only [Ex.v, Ex.node, Ex.args, List.length_cons, List.length_nil, Node.v, Node.cells] at hF
    go_wp2_with fail
    exact bodyPost_ret (res_box13 Tryz.results116 rfl hF.2) rfl (hF.1.wide (by omega) (by omega))
  by_cases r3 : r = 3
  · subst r3
    go_wp2_with fail
    refine Calls.mono (Tryz.sub155 ih hS (by omega) hn 4 (by omega)) ?_
    rintro e V2 ⟨t1, d1, c1, b1, rfl, hX1, hb1, hL, hT⟩
    replace hX1 := hX1.less (Nat.le_refl _) hS.size
    replace hS := hS.turn hT hL
    obtain ⟨q0, q1, q2, q3⟩ := hS.cells
    clear hL hT
    simp only [Ex.v, Node.v, Node.cells]
    go_wp2_with fail
    refine Calls.mono (Tryz.sub155 ih hS (by omega) hn 4 (by omega)) ?_
    rintro e V3 ⟨t2, d2, c2, b2, rfl, hX2, hb2, hL, hT⟩
    replace hX2 := hX2.less (Nat.le_refl _) hS.size
    replace hX1 := hX1.turn hT (by have := hS.size; omega)
    replace hS := hS.turn hT hL
    obtain ⟨q0, q1, q2, q3⟩ := hS.cells
    clear hL hT
    simp only [Ex.v, Node.v, Node.cells]
    go_wp2_with fail
    have hR := TreeAt.row2 (opX 13) (opX_ok _) hX1 hX2 (Nat.le_refl _) hS.size
    have hAl := (Below.refl (V3).heap.size V3).alloc (Nat.le_refl _) (.cells (rowC [(t1, d1, c1), (t2, d2, c2)]).toArray 57)
    replace hS := hS.call hAl
    clear hX1 hX2 hAl
    refine (Tryz.oper 13 _ 2 2 _).mono ?_
    rintro e V4 ⟨rfl, hbO⟩
    replace hR := hR.call hbO
    replace hS := hS.call hbO
    obtain ⟨q0, q1, q2, q3⟩ := hS.cells
    simp only [Node.v, Node.cells]
    clear hbO
    have hF := Out.fin (a := a) (K := 5 * K + 20) hS.turns hS.live hR hS.res (Nat.le_add_right _ _) (by omega) hg (by omega)
    obtain ⟨c0, c1, c2, c3, c4, c5, c6, c7, c8, c9, c10, c11, c12⟩ := hS.res.is
    obtain ⟨f0, f1, f2, f3, f4, f5, f6, f7, f8, f9, f10, f11, f12⟩ := hS.res.frozs
    simp only [Ex.v, Ex.node, Ex.args, List.length_cons, List.length_nil, Node.v, Node.cells, opX] at hF
    go_wp2_with fail
    exact bodyPost_ret (res_box13 Tryz.results116 rfl hF.2) rfl (hF.1.wide (by omega) (by omega))
  have e0 : (r == 0) = false := by simpa using r0
  have e1 : (r == 1) = false := by simpa using r1
  have e2 : (r == 2) = false := by simpa using r2
  have e3 : (r == 3) = false := by simpa using r3
  go_wp2_with fail
  refine (Tryz.rangeL hS.live (by omega) 12 16 (by omega) (by omega) (by omega)).mono ?_
  rintro e V2 ⟨z, hz1, hz2, rfl, hL, hT⟩
  replace hS := hS.turn hT hL
  obtain ⟨q0, q1, q2, q3⟩ := hS.cells
  clear hL hT
  go_wp2_with fail
  refine Calls.mono (Tryz.sub155 ih hS (by omega) hn 2 (by omega)) ?_
  rintro e V3 ⟨t1, d1, c1, b1, rfl, hX1, hb1, hL, hT⟩
  replace hX1 := hX1.less (Nat.le_refl _) hS.size
  replace hS := hS.turn hT hL
  obtain ⟨q0, q1, q2, q3⟩ := hS.cells
  clear hL hT
  simp only [Ex.v, Node.v, Node.cells]
  go_wp2_with fail
  refine Calls.mono (Tryz.sub155 ih hS (by omega) hn 2 (by omega)) ?_
  rintro e V4 ⟨t2, d2, c2, b2, rfl, hX2, hb2, hL, hT⟩
  replace hX2 := hX2.less (Nat.le_refl _) hS.size
  replace hX1 := hX1.turn hT (by have := hS.size; omega)
  replace hS := hS.turn hT hL
  obtain ⟨q0, q1, q2, q3⟩ := hS.cells
  clear hL hT
  simp only [Ex.v, Node.v, Node.cells]
  go_wp2_with fail
  have hR := TreeAt.row2 (opX z) (opX_ok _) hX1 hX2 (Nat.le_refl _) hS.size
  have hAl := (Below.refl (V4).heap.size V4).alloc (Nat.le_refl _) (.cells (rowC [(t1, d1, c1), (t2, d2, c2)]).toArray 57)
  replace hS := hS.call hAl
  clear hX1 hX2 hAl
  refine (Tryz.oper z _ 2 2 _).mono ?_
  rintro e V5 ⟨rfl, hbO⟩
  replace hR := hR.call hbO
  replace hS := hS.call hbO
  obtain ⟨q0, q1, q2, q3⟩ := hS.cells
  simp only [Node.v, Node.cells]
  clear hbO
  have hF := Out.fin (a := a) (K := 5 * K + 20) hS.turns hS.live hR hS.res (Nat.le_add_right _ _) (by omega) hg (by omega)
  obtain ⟨c0, c1, c2, c3, c4, c5, c6, c7, c8, c9, c10, c11, c12⟩ := hS.res.is
  obtain ⟨f0, f1, f2, f3, f4, f5, f6, f7, f8, f9, f10, f11, f12⟩ := hS.res.frozs
  simp only [Ex.v, Ex.node, Ex.args, List.length_cons, List.length_nil, Node.v, Node.cells, opX] at hF
  go_wp2_with fail
  exact bodyPost_ret (res_box13 Tryz.results116 rfl hF.2) rfl (hF.1.wide (by omega) (by omega))

end Go.Proofs
