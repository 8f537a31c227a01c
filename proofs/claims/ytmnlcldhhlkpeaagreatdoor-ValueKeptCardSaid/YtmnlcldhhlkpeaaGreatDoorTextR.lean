/- Of package value: texts as moments. No condition but what the library's variables hold. -/
import Derived.Test.YtmnlcldhhlkpeaaGreatDoorText
namespace Go.Proofs
open Go.RowKit

/-- dateRead on its way: its result, and the numbers that it has read. -/
structure RAt (w W : World) (N : Nat) (l : List Int) : Prop where
  res : W.heap[w.heap.size]? = some (.cells #[.int .i64 0, .int .i64 0, .string ⟨#[]⟩] 23)
  arr : W.heap[w.heap.size + 1]? = some (.cells (l.map (Value.int .i64)).toArray 142)
  hb : Below w.heap.size w W
  lit : Lit N W
  le : N ≤ w.heap.size

theorem RAt.next {w W W' : World} {N : Nat} {l : List Int} (h : RAt w W N l) (hb : Below W.heap.size W W') : RAt w W' N l :=
  ⟨(hb.block _ (lt_of_block h.res)).trans h.res, (hb.block _ (lt_of_block h.arr)).trans h.arr, h.hb.trans (hb.mono h.hb.size), h.lit.on (hb.mono (Nat.le_trans h.le h.hb.size)), h.le⟩

theorem RAt.set {w W : World} {N : Nat} {l : List Int} (i : Nat) (v : Int) (h : RAt w W N l) : RAt w (W.setCell ⟨w.heap.size + 1, i, none⟩ (.int .i64 v)) N (l.set i v) := by
  have hb : Below w.heap.size w (W.setCell ⟨w.heap.size + 1, i, none⟩ (.int .i64 v)) := Below.setCell h.hb (Nat.le_succ _) _
  refine ⟨(block_set_ne (by omega)).trans h.res, ?_, hb, h.lit.on (Below.setCell (Below.refl _ _) (Nat.le_succ_of_le h.le) _), h.le⟩
  rw [block_set h.arr]
  simp [List.map_set]

theorem RAt.cells {w W : World} {N : Nat} {a0 a1 a2 a3 a4 a5 : Int} (h : RAt w W N [a0, a1, a2, a3, a4, a5]) :
    (W.cell? ⟨w.heap.size + 1, 0, none⟩ = some (.int .i64 a0) ∧ W.cell? ⟨w.heap.size + 1, 1, none⟩ = some (.int .i64 a1) ∧ W.cell? ⟨w.heap.size + 1, 2, none⟩ = some (.int .i64 a2) ∧
    W.cell? ⟨w.heap.size + 1, 3, none⟩ = some (.int .i64 a3) ∧ W.cell? ⟨w.heap.size + 1, 4, none⟩ = some (.int .i64 a4) ∧ W.cell? ⟨w.heap.size + 1, 5, none⟩ = some (.int .i64 a5)) ∧
    (W.frozen? ⟨w.heap.size + 1, 0, none⟩ = false ∧ W.frozen? ⟨w.heap.size + 1, 1, none⟩ = false ∧ W.frozen? ⟨w.heap.size + 1, 2, none⟩ = false ∧
    W.frozen? ⟨w.heap.size + 1, 3, none⟩ = false ∧ W.frozen? ⟨w.heap.size + 1, 4, none⟩ = false ∧ W.frozen? ⟨w.heap.size + 1, 5, none⟩ = false) := by
  refine ⟨⟨?_, ?_, ?_, ?_, ?_, ?_⟩, ?_, ?_, ?_, ?_, ?_, ?_⟩ <;> simp [World.cell?, World.frozen?, h.arr]

theorem numAt_some {s : ByteArray} {a b : Nat} {v : Int} (h : Lib.atoiAll (s.extract a b).data.toList = .ok v) : numAt s a b = some v := by
  unfold numAt
  rw [← Lib.extract_toList, ByteArray.toList_eq, h]

theorem numAt_none {s : ByteArray} {a b : Nat} (h : ∀ v, Lib.atoiAll (s.extract a b).data.toList ≠ .ok v) : numAt s a b = none := by
  unfold numAt
  rw [← Lib.extract_toList, ByteArray.toList_eq]
  split
  · rename_i v hv
    exact absurd hv (h v)
  · rfl

theorem index142 (a0 a1 a2 a3 a4 a5 : Value) (W : World) :
    (Instr.index 142 (.agg #[a0, a1, a2, a3, a4, a5]) (.int .i64 0)).run Tryz.prog W = .ok a0 W ∧ (Instr.index 142 (.agg #[a0, a1, a2, a3, a4, a5]) (.int .i64 1)).run Tryz.prog W = .ok a1 W ∧
    (Instr.index 142 (.agg #[a0, a1, a2, a3, a4, a5]) (.int .i64 2)).run Tryz.prog W = .ok a2 W ∧ (Instr.index 142 (.agg #[a0, a1, a2, a3, a4, a5]) (.int .i64 3)).run Tryz.prog W = .ok a3 W ∧
    (Instr.index 142 (.agg #[a0, a1, a2, a3, a4, a5]) (.int .i64 4)).run Tryz.prog W = .ok a4 W ∧ (Instr.index 142 (.agg #[a0, a1, a2, a3, a4, a5]) (.int .i64 5)).run Tryz.prog W = .ok a5 W := by
  refine ⟨?_, ?_, ?_, ?_, ?_, ?_⟩ <;> simp [Instr.index, go_sem, asIntOf, part, Tryz.isAgg3, Tryz.sizeOf3]

theorem dread_size {s : ByteArray} (h : s.size ≠ 19) : dreadV s = Val.zero := by
  unfold dreadV
  rw [if_pos h]

theorem dread_is {s : ByteArray} (h : s.size = 19) : dreadV s = dreadN s := by
  unfold dreadV
  rw [if_neg (by omega)]

theorem dateT_k {y m d h mi s : Int} (hk : (dateT y m d h mi s).k ≠ 0) : (dateT y m d h mi s).k = 4 ∧ 0 ≤ (dateT y m d h mi s).n ∧ (dateT y m d h mi s).n ≤ 253402300799 := by
  unfold dateT at hk ⊢
  split at hk
  · rename_i hc
    rw [if_pos hc]
    obtain ⟨h1, h2⟩ := plain_k hk
    rw [h2]
    rcases fine_is h1 (by simp) with ⟨h, _⟩ | ⟨h, _⟩ | ⟨h, _⟩ | ⟨_, h, _⟩
    · simp at h
    · simp at h
    · simp at h
    · exact ⟨rfl, h.1, h.2⟩
  · exact absurd rfl hk

theorem str_no {s t : ByteArray} (h : s ≠ t) : (s.toList == t.toList) = false := by
  rw [beq_eq_false_iff_ne]
  intro e
  rw [ByteArray.toList_eq, ByteArray.toList_eq] at e
  exact h (ByteArray.ext (Array.toList_inj.mp e))

set_option maxRecDepth 20000 in
set_option maxHeartbeats 4000000 in
theorem Tryz.dateRead {N : Nat} (s : ByteArray) (w : World) (_hs : s.size ≤ 1000) (hL : Lit N w) (hN : N ≤ w.heap.size) :
    Calls Tryz.prog 82 #[.string s] w fun e w' => e = .returned (dreadV s).v ∧ Below w.heap.size w w' := by
  have i0 := fun (a0 a1 a2 a3 a4 a5 : Value) (W : World) => (index142 a0 a1 a2 a3 a4 a5 W).1
  have i1 := fun (a0 a1 a2 a3 a4 a5 : Value) (W : World) => (index142 a0 a1 a2 a3 a4 a5 W).2.1
  have i2 := fun (a0 a1 a2 a3 a4 a5 : Value) (W : World) => (index142 a0 a1 a2 a3 a4 a5 W).2.2.1
  have i3 := fun (a0 a1 a2 a3 a4 a5 : Value) (W : World) => (index142 a0 a1 a2 a3 a4 a5 W).2.2.2.1
  have i4 := fun (a0 a1 a2 a3 a4 a5 : Value) (W : World) => (index142 a0 a1 a2 a3 a4 a5 W).2.2.2.2.1
  have i5 := fun (a0 a1 a2 a3 a4 a5 : Value) (W : World) => (index142 a0 a1 a2 a3 a4 a5 W).2.2.2.2.2
  by_cases hsz : s.size = 19
  rotate_left
  · rw [dread_size hsz]
    have hne : ((s.size : Int) != 19) = true := by simp; omega
    go_enter Tryz.func82, Tryz.ntmps82
    go_wp2
    exact bodyPost_ret (v := Val.zero.v) (by simp [results, Tryz.results82, go_sem, Val.v, valV, Val.zero]) rfl ⟨rfl, (Below.refl _ _).alloc (Nat.le_refl _) _⟩
  · have hR : RAt w ((w.alloc (.cells #[.int .i64 0, .int .i64 0, .string ⟨#[]⟩] 23)).alloc (.cells #[.int .i64 0, .int .i64 0, .int .i64 0, .int .i64 0, .int .i64 0, .int .i64 0] 142)) N [0, 0, 0, 0, 0, 0] := by
      have e1 : (w.alloc (.cells #[.int .i64 0, .int .i64 0, .string ⟨#[]⟩] 23)).heap.size = w.heap.size + 1 := alloc_size _ _
      have hb : Below w.heap.size w ((w.alloc (.cells #[.int .i64 0, .int .i64 0, .string ⟨#[]⟩] 23)).alloc (.cells #[.int .i64 0, .int .i64 0, .int .i64 0, .int .i64 0, .int .i64 0, .int .i64 0] 142)) := ((Below.refl _ _).alloc (Nat.le_refl _) _).alloc (by omega) _
      exact ⟨(heap_alloc_old _ _ (by omega)).trans (heap_alloc_new w _), by rw [← e1]; exact heap_alloc_new _ _, hb, hL.on (hb.mono hN), hN⟩
    go_enter Tryz.func82, Tryz.ntmps82
    go_wp2_with fail
    generalize (w.alloc (.cells #[.int .i64 0, .int .i64 0, .string ⟨#[]⟩] 23)).alloc (.cells #[.int .i64 0, .int .i64 0, .int .i64 0, .int .i64 0, .int .i64 0, .int .i64 0] 142) = W0 at hR ⊢
    refine wp_loop_rounds 7 ?_
    rw [rounds_succ]
    go_wp2_with fail
    refine (Tryz.atoiF (s.extract 0 4) (by simp; omega) _ hR.lit (Nat.le_trans hR.le hR.hb.size)).mono ?_
    rintro e w1 (⟨v0, ha, vb, vb', rfl, hb1⟩ | ⟨ha, ⟨v, t, p, rfl⟩, hb1⟩)
    rotate_left
    · replace hR := hR.next hb1
      have hn := numAt_none ha
      have hz : dreadV s = Val.zero := by rw [dread_is hsz]; unfold dreadN; rw [hn]; try rfl
      obtain ⟨⟨c0, c1, c2⟩, f0, f1, f2⟩ := free_zero hR.res
      clear ha hn
      go_wp2
      exact bodyPost_ret (v := Val.zero.v) (res_box Tryz.results82 rfl (set3_block Val.zero hR.res)) rfl ⟨by rw [hz], set3_below hR.hb (Nat.le_refl _)⟩
    have m0 := numAt_some ha
    clear ha
    replace hR := hR.next hb1
    clear hb1
    obtain ⟨⟨c0, c1, c2, c3, c4, c5⟩, f0, f1, f2, f3, f4, f5⟩ := hR.cells
    go_upto_region 14 with fail
    replace hR := hR.set 0 v0
    clear c0 c1 c2 c3 c4 c5 f0 f1 f2 f3 f4 f5
    generalize w1.setCell ⟨w.heap.size + 1, 0, none⟩ (.int .i64 v0) = W1 at hR ⊢
    simp only [List.set_cons_zero] at hR
    go_wp2_with fail
    rw [rounds_succ]
    go_wp2_with fail
    refine (Tryz.atoiF (s.extract 5 7) (by simp; omega) _ hR.lit (Nat.le_trans hR.le hR.hb.size)).mono ?_
    rintro e w2 (⟨v1, ha, vb, vb', rfl, hb1⟩ | ⟨ha, ⟨v, t, p, rfl⟩, hb1⟩)
    rotate_left
    · replace hR := hR.next hb1
      have hn := numAt_none ha
      have hz : dreadV s = Val.zero := by rw [dread_is hsz]; unfold dreadN; rw [m0, hn]; try rfl
      obtain ⟨⟨c0, c1, c2⟩, f0, f1, f2⟩ := free_zero hR.res
      clear ha hn
      go_wp2
      exact bodyPost_ret (v := Val.zero.v) (res_box Tryz.results82 rfl (set3_block Val.zero hR.res)) rfl ⟨by rw [hz], set3_below hR.hb (Nat.le_refl _)⟩
    have m1 := numAt_some ha
    clear ha
    replace hR := hR.next hb1
    clear hb1
    obtain ⟨⟨c0, c1, c2, c3, c4, c5⟩, f0, f1, f2, f3, f4, f5⟩ := hR.cells
    go_upto_region 14 with fail
    replace hR := hR.set 1 v1
    clear c0 c1 c2 c3 c4 c5 f0 f1 f2 f3 f4 f5
    generalize w2.setCell ⟨w.heap.size + 1, 1, none⟩ (.int .i64 v1) = W2 at hR ⊢
    simp only [List.set_cons_zero, List.set_cons_succ] at hR
    go_wp2_with fail
    rw [rounds_succ]
    go_wp2_with fail
    refine (Tryz.atoiF (s.extract 8 10) (by simp; omega) _ hR.lit (Nat.le_trans hR.le hR.hb.size)).mono ?_
    rintro e w3 (⟨v2, ha, vb, vb', rfl, hb1⟩ | ⟨ha, ⟨v, t, p, rfl⟩, hb1⟩)
    rotate_left
    · replace hR := hR.next hb1
      have hn := numAt_none ha
      have hz : dreadV s = Val.zero := by rw [dread_is hsz]; unfold dreadN; rw [m0, m1, hn]; try rfl
      obtain ⟨⟨c0, c1, c2⟩, f0, f1, f2⟩ := free_zero hR.res
      clear ha hn
      go_wp2
      exact bodyPost_ret (v := Val.zero.v) (res_box Tryz.results82 rfl (set3_block Val.zero hR.res)) rfl ⟨by rw [hz], set3_below hR.hb (Nat.le_refl _)⟩
    have m2 := numAt_some ha
    clear ha
    replace hR := hR.next hb1
    clear hb1
    obtain ⟨⟨c0, c1, c2, c3, c4, c5⟩, f0, f1, f2, f3, f4, f5⟩ := hR.cells
    go_upto_region 14 with fail
    replace hR := hR.set 2 v2
    clear c0 c1 c2 c3 c4 c5 f0 f1 f2 f3 f4 f5
    generalize w3.setCell ⟨w.heap.size + 1, 2, none⟩ (.int .i64 v2) = W3 at hR ⊢
    simp only [List.set_cons_zero, List.set_cons_succ] at hR
    go_wp2_with fail
    rw [rounds_succ]
    go_wp2_with fail
    refine (Tryz.atoiF (s.extract 11 13) (by simp; omega) _ hR.lit (Nat.le_trans hR.le hR.hb.size)).mono ?_
    rintro e w4 (⟨v3, ha, vb, vb', rfl, hb1⟩ | ⟨ha, ⟨v, t, p, rfl⟩, hb1⟩)
    rotate_left
    · replace hR := hR.next hb1
      have hn := numAt_none ha
      have hz : dreadV s = Val.zero := by rw [dread_is hsz]; unfold dreadN; rw [m0, m1, m2, hn]; try rfl
      obtain ⟨⟨c0, c1, c2⟩, f0, f1, f2⟩ := free_zero hR.res
      clear ha hn
      go_wp2
      exact bodyPost_ret (v := Val.zero.v) (res_box Tryz.results82 rfl (set3_block Val.zero hR.res)) rfl ⟨by rw [hz], set3_below hR.hb (Nat.le_refl _)⟩
    have m3 := numAt_some ha
    clear ha
    replace hR := hR.next hb1
    clear hb1
    obtain ⟨⟨c0, c1, c2, c3, c4, c5⟩, f0, f1, f2, f3, f4, f5⟩ := hR.cells
    go_upto_region 14 with fail
    replace hR := hR.set 3 v3
    clear c0 c1 c2 c3 c4 c5 f0 f1 f2 f3 f4 f5
    generalize w4.setCell ⟨w.heap.size + 1, 3, none⟩ (.int .i64 v3) = W4 at hR ⊢
    simp only [List.set_cons_zero, List.set_cons_succ] at hR
    go_wp2_with fail
    rw [rounds_succ]
    go_wp2_with fail
    refine (Tryz.atoiF (s.extract 14 16) (by simp; omega) _ hR.lit (Nat.le_trans hR.le hR.hb.size)).mono ?_
    rintro e w5 (⟨v4, ha, vb, vb', rfl, hb1⟩ | ⟨ha, ⟨v, t, p, rfl⟩, hb1⟩)
    rotate_left
    · replace hR := hR.next hb1
      have hn := numAt_none ha
      have hz : dreadV s = Val.zero := by rw [dread_is hsz]; unfold dreadN; rw [m0, m1, m2, m3, hn]; try rfl
      obtain ⟨⟨c0, c1, c2⟩, f0, f1, f2⟩ := free_zero hR.res
      clear ha hn
      go_wp2
      exact bodyPost_ret (v := Val.zero.v) (res_box Tryz.results82 rfl (set3_block Val.zero hR.res)) rfl ⟨by rw [hz], set3_below hR.hb (Nat.le_refl _)⟩
    have m4 := numAt_some ha
    clear ha
    replace hR := hR.next hb1
    clear hb1
    obtain ⟨⟨c0, c1, c2, c3, c4, c5⟩, f0, f1, f2, f3, f4, f5⟩ := hR.cells
    go_upto_region 14 with fail
    replace hR := hR.set 4 v4
    clear c0 c1 c2 c3 c4 c5 f0 f1 f2 f3 f4 f5
    generalize w5.setCell ⟨w.heap.size + 1, 4, none⟩ (.int .i64 v4) = W5 at hR ⊢
    simp only [List.set_cons_zero, List.set_cons_succ] at hR
    go_wp2_with fail
    rw [rounds_succ]
    go_wp2_with fail
    refine (Tryz.atoiF (s.extract 17 19) (by simp; omega) _ hR.lit (Nat.le_trans hR.le hR.hb.size)).mono ?_
    rintro e w6 (⟨v5, ha, vb, vb', rfl, hb1⟩ | ⟨ha, ⟨v, t, p, rfl⟩, hb1⟩)
    rotate_left
    · replace hR := hR.next hb1
      have hn := numAt_none ha
      have hz : dreadV s = Val.zero := by rw [dread_is hsz]; unfold dreadN; rw [m0, m1, m2, m3, m4, hn]; try rfl
      obtain ⟨⟨c0, c1, c2⟩, f0, f1, f2⟩ := free_zero hR.res
      clear ha hn
      go_wp2
      exact bodyPost_ret (v := Val.zero.v) (res_box Tryz.results82 rfl (set3_block Val.zero hR.res)) rfl ⟨by rw [hz], set3_below hR.hb (Nat.le_refl _)⟩
    have m5 := numAt_some ha
    clear ha
    replace hR := hR.next hb1
    clear hb1
    obtain ⟨⟨c0, c1, c2, c3, c4, c5⟩, f0, f1, f2, f3, f4, f5⟩ := hR.cells
    go_upto_region 14 with fail
    replace hR := hR.set 5 v5
    clear c0 c1 c2 c3 c4 c5 f0 f1 f2 f3 f4 f5
    generalize w6.setCell ⟨w.heap.size + 1, 5, none⟩ (.int .i64 v5) = W6 at hR ⊢
    simp only [List.set_cons_zero, List.set_cons_succ] at hR
    go_wp2_with fail
    rw [rounds_succ]
    obtain ⟨⟨c0, c1, c2, c3, c4, c5⟩, f0, f1, f2, f3, f4, f5⟩ := hR.cells
    go_wp2_with fail
    refine (Tryz.dateA v0 v1 v2 v3 v4 v5 _).mono ?_
    rintro e w9 ⟨rfl, hb1⟩
    clear c0 c1 c2 c3 c4 c5 f0 f1 f2 f3 f4 f5
    replace hR := hR.next hb1
    clear hb1
    have hD : dreadV s = if (dateT v0 v1 v2 v3 v4 v5).k = 0 ∨ dtextB (dateT v0 v1 v2 v3 v4 v5).n ≠ s then Val.zero else dateT v0 v1 v2 v3 v4 v5 := by
      rw [dread_is hsz]
      unfold dreadN
      rw [m0, m1, m2, m3, m4, m5]
    have hK := fun hk : (dateT v0 v1 v2 v3 v4 v5).k ≠ 0 => dateT_k hk
    clear m0 m1 m2 m3 m4 m5
    generalize dateT v0 v1 v2 v3 v4 v5 = x at hD hK ⊢
    simp only [Val.v, valV]
    go_upto_region 16 with fail
    have hX := BoxAt.new x hR.hb
    replace hR := hR.next ((Below.refl w9.heap.size w9).alloc (Nat.le_refl _) (.cells #[.int .i64 x.k, .int .i64 x.n, .string x.s] 23))
    generalize w9.heap.size = g9 at hX ⊢
    generalize w9.alloc (.cells #[.int .i64 x.k, .int .i64 x.n, .string x.s] 23) = W9 at hX hR ⊢
    obtain ⟨⟨x0, x1, x2⟩, _⟩ := hX.cells
    obtain ⟨⟨c0, c1, c2⟩, f0, f1, f2⟩ := free_zero hR.res
    by_cases hk : x.k = 0
    · have hkb : (x.k == 0) = true := by simp [hk]
      have hz : dreadV s = Val.zero := by rw [hD, if_pos (Or.inl hk)]
      go_wp2_with fail
      exact bodyPost_ret (v := Val.zero.v) (res_box Tryz.results82 rfl (set3_block Val.zero hR.res)) rfl ⟨by rw [hz], set3_below hR.hb (Nat.le_refl _)⟩
    · have hkb : (x.k == 0) = false := by simp [hk]
      have n0 := (hK hk).2.1
      have n1 := (hK hk).2.2
      clear hK
      go_wp2_with fail
      refine (Tryz.dateText x.n n0 n1 _ hR.lit (Nat.le_trans hR.le hR.hb.size)).mono ?_
      rintro e w10 ⟨rfl, hb1⟩
      replace hR := hR.next hb1
      replace hX := hX.next hb1
      clear c0 c1 c2 f0 f1 f2 x0 x1 x2 hb1
      obtain ⟨⟨x0, x1, x2⟩, _⟩ := hX.cells
      obtain ⟨⟨c0, c1, c2⟩, f0, f1, f2⟩ := free_zero hR.res
      by_cases hd : dtextB x.n = s
      · have hz : dreadV s = x := by rw [hD, if_neg (by rintro (h | h); exact hk h; exact h hd)]
        rw [hd]
        go_wp2_with fail
        exact bodyPost_ret (v := x.v) (res_box Tryz.results82 rfl (set3_block x hR.res)) rfl ⟨by rw [hz], set3_below hR.hb (Nat.le_refl _)⟩
      · have hz : dreadV s = Val.zero := by rw [hD, if_pos (Or.inr hd)]
        have hds : ((dtextB x.n).toList == s.toList) = false := str_no hd
        go_wp2_with fail
        exact bodyPost_ret (v := Val.zero.v) (res_box Tryz.results82 rfl (set3_block Val.zero hR.res)) rfl ⟨by rw [hz], set3_below hR.hb (Nat.le_refl _)⟩

end Go.Proofs
