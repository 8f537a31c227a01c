/- Of package value: casts. No condition but what the library's variables hold. -/
import Derived.Test.YtmnlcldhhlkpeaaGreatDoorCast
namespace Go.Proofs
open Go.RowKit

theorem dateT_s (y m d h mi s : Int) : (dateT y m d h mi s).s = ⟨#[]⟩ := by
  unfold dateT Val.plain
  split
  · split <;> rfl
  · rfl

theorem dread_s (s : ByteArray) : (dreadV s).s = ⟨#[]⟩ := by
  unfold dreadV
  split
  · rfl
  · unfold dreadN
    split
    · split
      · rfl
      · exact dateT_s _ _ _ _ _ _
    · rfl

theorem cand_size {s : ByteArray} (hs : s.size ≤ 900) : (candV s).s.size ≤ 3000 := by
  unfold candV
  split
  · exact Nat.zero_le _
  · split
    · have h1 := replaceAll_len ((s.data.toList.drop 1).take (s.size - 1 - 1)) [39, 39] [39]
      have h2 : ((s.data.toList.drop 1).take (s.size - 1 - 1)).length ≤ 900 := by
        simp only [List.length_take, List.length_drop]
        omega
      show (⟨(Lib.replaceAll ((s.data.toList.drop 1).take (s.size - 1 - 1)) [39, 39] [39]).toArray⟩ : ByteArray).size ≤ 3000
      rw [Lib.size_eq]
      have e1 : ([39] : List UInt8).length = 1 := rfl
      rw [e1] at h1
      have e2 : (⟨(Lib.replaceAll ((s.data.toList.drop 1).take (s.size - 1 - 1)) [39, 39] [39]).toArray⟩ : ByteArray).data.toList = Lib.replaceAll ((s.data.toList.drop 1).take (s.size - 1 - 1)) [39, 39] [39] := rfl
      rw [e2]
      omega
    · split
      · rw [dread_s]; exact Nat.zero_le _
      · split <;> exact Nat.zero_le _

theorem read_size {s : ByteArray} {k : Int} (hs : s.size ≤ 900) : (readT s k).s.size ≤ 3000 := by
  unfold readT
  split
  · rw [dread_s]; exact Nat.zero_le _
  · exact cand_size hs

theorem from_not {s : ByteArray} {k : Int} (h : ¬ ((readT s k).fine = true ∧ (readT s k).k = k ∧ shownV (readT s k) = s)) : fromV s k = Val.zero := by
  unfold fromV
  rw [if_neg h]

theorem from_yes {s : ByteArray} {k : Int} (h : (readT s k).fine = true ∧ (readT s k).k = k ∧ shownV (readT s k) = s) : fromV s k = readT s k := by
  unfold fromV
  rw [if_pos h]

set_option maxRecDepth 20000 in
set_option maxHeartbeats 4000000 in
theorem Tryz.fromF {N : Nat} (s : ByteArray) (k : Int) (hs : s.size ≤ 900) (hk : k = 1 ∨ k = 2 ∨ k = 4) (w : World) (hL : Lit N w) (hN : N ≤ w.heap.size) :
    Calls Tryz.prog 47 #[.string s, .int .i64 k] w fun e w' => e = .returned (fromV s k).v ∧ Below w.heap.size w w' := by
  have hR := BoxAt.new Val.zero (Below.refl w.heap.size w)
  have hz : ¬ ((readT s k).fine = true ∧ (readT s k).k = k ∧ shownV (readT s k) = s) → fromV s k = Val.zero := from_not
  have hy : ((readT s k).fine = true ∧ (readT s k).k = k ∧ shownV (readT s k) = s) → fromV s k = readT s k := from_yes
  have hx : (readT s k).s.size ≤ 3000 := read_size hs
  rcases hk with rfl | rfl | rfl
  · obtain ⟨hL1, hN1⟩ := hR.lit hL hN
    go_enter Tryz.func47, Tryz.ntmps47
    go_wp2_with fail
    change BoxAt w (w.alloc (.cells #[.int .i64 0, .int .i64 0, .string ⟨#[]⟩] 23)) w.heap.size Val.zero at hR
    change Lit N (w.alloc (.cells #[.int .i64 0, .int .i64 0, .string ⟨#[]⟩] 23)) at hL1
    change N ≤ (w.alloc (.cells #[.int .i64 0, .int .i64 0, .string ⟨#[]⟩] 23)).heap.size at hN1
    refine (Tryz.candF s hs _ hL1 hN1).mono ?_
    rintro e w1 ⟨rfl, hb1⟩
    replace hR := hR.next hb1
    have hg : w1.heap.size ≠ w.heap.size := by have := lt_of_block hR.at'; omega
    rw [readT_not (show ¬ (1 : Int) = 4 by decide)] at hz hy hx
    have hX := BoxAt.new (candV s) hR.hb
    replace hR := hR.alloc (.cells #[.int .i64 (candV s).k, .int .i64 (candV s).n, .string (candV s).s] 23)
    simp only [Val.v, valV]
    go_upto_region 4 with fail
    generalize candV s = x at hz hy hx hX hR ⊢
    generalize hW : (w1.alloc (.cells #[.int .i64 x.k, .int .i64 x.n, .string x.s] 23) : World) = W at hX hR ⊢
    clear hW
    have hRt : ∀ W, Calls Tryz.prog 56 #[.agg #[.int .i64 x.k, .int .i64 x.n, .string x.s]] W fun e W' => e = .returned (.bool x.fine) ∧ Below W.heap.size W W' := fun W => Tryz.right x.k x.n x.s (by omega) W
    obtain ⟨⟨x0, x1, x2⟩, _⟩ := hX.cells
    go_wp2_with fail
    refine (hRt _).mono ?_
    rintro e w3 ⟨rfl, hb3⟩
    replace hX := hX.next hb3
    replace hR := hR.next hb3
    clear x0 x1 x2 hb3 hRt
    obtain ⟨⟨x0, x1, x2⟩, _⟩ := hX.cells
    obtain ⟨⟨c0, c1, c2⟩, f0, f1, f2⟩ := free_zero hR.at'
    cases hf : x.fine with
    | false =>
      have h := hz (by rw [hf]; rintro ⟨h, _⟩; cases h)
      clear hz hy hf
      go_wp2_with fail
      exact bodyPost_ret (v := Val.zero.v) (res_box Tryz.results47 rfl (hR.set Val.zero).at') rfl ⟨by first | (rw [h]) | rfl, (hR.set Val.zero).hb⟩
    | true =>
      by_cases hkk : x.k = 1
      · obtain ⟨xk, xn, xs⟩ := x
        obtain rfl : xk = 1 := hkk
        have hz' : shownV ⟨1, xn, xs⟩ ≠ s → fromV s 1 = Val.zero := fun h => hz (fun h' => h h'.2.2)
        have hy' : shownV ⟨1, xn, xs⟩ = s → fromV s 1 = ⟨1, xn, xs⟩ := fun h => hy ⟨hf, rfl, h⟩
        have hS : ∀ W, Lit N W → N ≤ W.heap.size → Calls Tryz.prog 46 #[.agg #[.int .i64 1, .int .i64 xn, .string xs]] W fun e W' => e = .returned (.string (shownV ⟨1, xn, xs⟩)) ∧ Below W.heap.size W W' :=
          fun W hL hN => Tryz.shownF ⟨1, xn, xs⟩ hf (show (1 : Int) ≠ 0 by decide) W hL hN
        generalize shownV ⟨1, xn, xs⟩ = t at hz' hy' hS
        obtain ⟨hL3, hN3⟩ := hR.lit hL hN
        clear hz hy hf
        simp only at x0 x1 x2
        go_wp2_with fail
        refine (hS _ hL3 hN3).mono ?_
        rintro e w4 ⟨rfl, hb4⟩
        replace hX := hX.next hb4
        replace hR := hR.next hb4
        clear x0 x1 x2 c0 c1 c2 f0 f1 f2 hb4 hS
        obtain ⟨⟨x0, x1, x2⟩, _⟩ := hX.cells
        obtain ⟨⟨c0, c1, c2⟩, f0, f1, f2⟩ := free_zero hR.at'
        simp only at x0 x1 x2
        by_cases hd : t = s
        · have h := hy' hd
          clear hz' hy'
          rw [hd]
          clear hd
          go_wp2_with fail
          exact bodyPost_ret (v := (⟨1, xn, xs⟩ : Val).v) (res_box Tryz.results47 rfl (hR.set ⟨1, xn, xs⟩).at') rfl ⟨by first | (rw [h]) | rfl, (hR.set ⟨1, xn, xs⟩).hb⟩
        · have h := hz' hd
          have hds := str_no hd
          clear hz' hy' hd
          go_wp2_with fail
          exact bodyPost_ret (v := Val.zero.v) (res_box Tryz.results47 rfl (hR.set Val.zero).at') rfl ⟨by first | (rw [h]) | rfl, (hR.set Val.zero).hb⟩
      · have h := hz (fun h' => hkk h'.2.1)
        have hk1 : (x.k == 1) = false := by simp [hkk]
        have hk2 : (x.k != 1) = true := by simp [hkk]
        clear hz hy hf hkk
        go_wp2_with fail
        exact bodyPost_ret (v := Val.zero.v) (res_box Tryz.results47 rfl (hR.set Val.zero).at') rfl ⟨by first | (rw [h]) | rfl, (hR.set Val.zero).hb⟩
  · obtain ⟨hL1, hN1⟩ := hR.lit hL hN
    go_enter Tryz.func47, Tryz.ntmps47
    go_wp2_with fail
    change BoxAt w (w.alloc (.cells #[.int .i64 0, .int .i64 0, .string ⟨#[]⟩] 23)) w.heap.size Val.zero at hR
    change Lit N (w.alloc (.cells #[.int .i64 0, .int .i64 0, .string ⟨#[]⟩] 23)) at hL1
    change N ≤ (w.alloc (.cells #[.int .i64 0, .int .i64 0, .string ⟨#[]⟩] 23)).heap.size at hN1
    refine (Tryz.candF s hs _ hL1 hN1).mono ?_
    rintro e w1 ⟨rfl, hb1⟩
    replace hR := hR.next hb1
    have hg : w1.heap.size ≠ w.heap.size := by have := lt_of_block hR.at'; omega
    rw [readT_not (show ¬ (2 : Int) = 4 by decide)] at hz hy hx
    have hX := BoxAt.new (candV s) hR.hb
    replace hR := hR.alloc (.cells #[.int .i64 (candV s).k, .int .i64 (candV s).n, .string (candV s).s] 23)
    simp only [Val.v, valV]
    go_upto_region 4 with fail
    generalize candV s = x at hz hy hx hX hR ⊢
    generalize hW : (w1.alloc (.cells #[.int .i64 x.k, .int .i64 x.n, .string x.s] 23) : World) = W at hX hR ⊢
    clear hW
    have hRt : ∀ W, Calls Tryz.prog 56 #[.agg #[.int .i64 x.k, .int .i64 x.n, .string x.s]] W fun e W' => e = .returned (.bool x.fine) ∧ Below W.heap.size W W' := fun W => Tryz.right x.k x.n x.s (by omega) W
    obtain ⟨⟨x0, x1, x2⟩, _⟩ := hX.cells
    go_wp2_with fail
    refine (hRt _).mono ?_
    rintro e w3 ⟨rfl, hb3⟩
    replace hX := hX.next hb3
    replace hR := hR.next hb3
    clear x0 x1 x2 hb3 hRt
    obtain ⟨⟨x0, x1, x2⟩, _⟩ := hX.cells
    obtain ⟨⟨c0, c1, c2⟩, f0, f1, f2⟩ := free_zero hR.at'
    cases hf : x.fine with
    | false =>
      have h := hz (by rw [hf]; rintro ⟨h, _⟩; cases h)
      clear hz hy hf
      go_wp2_with fail
      exact bodyPost_ret (v := Val.zero.v) (res_box Tryz.results47 rfl (hR.set Val.zero).at') rfl ⟨by first | (rw [h]) | rfl, (hR.set Val.zero).hb⟩
    | true =>
      by_cases hkk : x.k = 2
      · obtain ⟨xk, xn, xs⟩ := x
        obtain rfl : xk = 2 := hkk
        have hz' : shownV ⟨2, xn, xs⟩ ≠ s → fromV s 2 = Val.zero := fun h => hz (fun h' => h h'.2.2)
        have hy' : shownV ⟨2, xn, xs⟩ = s → fromV s 2 = ⟨2, xn, xs⟩ := fun h => hy ⟨hf, rfl, h⟩
        have hS : ∀ W, Lit N W → N ≤ W.heap.size → Calls Tryz.prog 46 #[.agg #[.int .i64 2, .int .i64 xn, .string xs]] W fun e W' => e = .returned (.string (shownV ⟨2, xn, xs⟩)) ∧ Below W.heap.size W W' :=
          fun W hL hN => Tryz.shownF ⟨2, xn, xs⟩ hf (show (2 : Int) ≠ 0 by decide) W hL hN
        generalize shownV ⟨2, xn, xs⟩ = t at hz' hy' hS
        obtain ⟨hL3, hN3⟩ := hR.lit hL hN
        clear hz hy hf
        simp only at x0 x1 x2
        go_wp2_with fail
        refine (hS _ hL3 hN3).mono ?_
        rintro e w4 ⟨rfl, hb4⟩
        replace hX := hX.next hb4
        replace hR := hR.next hb4
        clear x0 x1 x2 c0 c1 c2 f0 f1 f2 hb4 hS
        obtain ⟨⟨x0, x1, x2⟩, _⟩ := hX.cells
        obtain ⟨⟨c0, c1, c2⟩, f0, f1, f2⟩ := free_zero hR.at'
        simp only at x0 x1 x2
        by_cases hd : t = s
        · have h := hy' hd
          clear hz' hy'
          rw [hd]
          clear hd
          go_wp2_with fail
          exact bodyPost_ret (v := (⟨2, xn, xs⟩ : Val).v) (res_box Tryz.results47 rfl (hR.set ⟨2, xn, xs⟩).at') rfl ⟨by first | (rw [h]) | rfl, (hR.set ⟨2, xn, xs⟩).hb⟩
        · have h := hz' hd
          have hds := str_no hd
          clear hz' hy' hd
          go_wp2_with fail
          exact bodyPost_ret (v := Val.zero.v) (res_box Tryz.results47 rfl (hR.set Val.zero).at') rfl ⟨by first | (rw [h]) | rfl, (hR.set Val.zero).hb⟩
      · have h := hz (fun h' => hkk h'.2.1)
        have hk1 : (x.k == 2) = false := by simp [hkk]
        have hk2 : (x.k != 2) = true := by simp [hkk]
        clear hz hy hf hkk
        go_wp2_with fail
        exact bodyPost_ret (v := Val.zero.v) (res_box Tryz.results47 rfl (hR.set Val.zero).at') rfl ⟨by first | (rw [h]) | rfl, (hR.set Val.zero).hb⟩
  · obtain ⟨hL1, hN1⟩ := hR.lit hL hN
    go_enter Tryz.func47, Tryz.ntmps47
    go_wp2_with fail
    change BoxAt w (w.alloc (.cells #[.int .i64 0, .int .i64 0, .string ⟨#[]⟩] 23)) w.heap.size Val.zero at hR
    change Lit N (w.alloc (.cells #[.int .i64 0, .int .i64 0, .string ⟨#[]⟩] 23)) at hL1
    change N ≤ (w.alloc (.cells #[.int .i64 0, .int .i64 0, .string ⟨#[]⟩] 23)).heap.size at hN1
    refine (Tryz.candF s hs _ hL1 hN1).mono ?_
    rintro e w1 ⟨rfl, hb1⟩
    replace hR := hR.next hb1
    have hg : w1.heap.size ≠ w.heap.size := by have := lt_of_block hR.at'; omega
    rw [read4] at hz hy hx
    have hX := BoxAt.new (candV s) hR.hb
    replace hR := hR.alloc (.cells #[.int .i64 (candV s).k, .int .i64 (candV s).n, .string (candV s).s] 23)
    generalize candV s = y at hX hR ⊢
    simp only [Val.v, valV]
    go_upto_region 3 with fail
    generalize w1.alloc (.cells #[.int .i64 y.k, .int .i64 y.n, .string y.s] 23) = W1 at hX hR ⊢
    generalize w1.heap.size = g5 at hX hg ⊢
    obtain ⟨hL2, hN2⟩ := hR.lit hL hN
    go_wp2_with fail
    refine (Tryz.dateRead s _ (by omega) hL2 hN2).mono ?_
    rintro e w2 ⟨rfl, hb2⟩
    replace hX := hX.next hb2
    replace hR := hR.next hb2
    obtain ⟨⟨x0, x1, x2⟩, y0, y1, y2⟩ := hX.cells
    simp only [Val.v, valV]
    go_upto_region 4 with fail
    clear x0 x1 x2 y0 y1 y2
    replace hR := hR.other (dreadV s) hX hg
    replace hX := hX.set (dreadV s)
    generalize dreadV s = x at hz hy hx hX hR ⊢
    generalize hW : (((w2.setCell ⟨g5, 0, none⟩ (.int .i64 x.k)).setCell ⟨g5, 1, none⟩ (.int .i64 x.n)).setCell ⟨g5, 2, none⟩ (.string x.s) : World) = W at hX hR ⊢
    clear hW
    have hRt : ∀ W, Calls Tryz.prog 56 #[.agg #[.int .i64 x.k, .int .i64 x.n, .string x.s]] W fun e W' => e = .returned (.bool x.fine) ∧ Below W.heap.size W W' := fun W => Tryz.right x.k x.n x.s (by omega) W
    obtain ⟨⟨x0, x1, x2⟩, _⟩ := hX.cells
    go_wp2_with fail
    refine (hRt _).mono ?_
    rintro e w3 ⟨rfl, hb3⟩
    replace hX := hX.next hb3
    replace hR := hR.next hb3
    clear x0 x1 x2 hb3 hRt
    obtain ⟨⟨x0, x1, x2⟩, _⟩ := hX.cells
    obtain ⟨⟨c0, c1, c2⟩, f0, f1, f2⟩ := free_zero hR.at'
    cases hf : x.fine with
    | false =>
      have h := hz (by rw [hf]; rintro ⟨h, _⟩; cases h)
      clear hz hy hf
      go_wp2_with fail
      exact bodyPost_ret (v := Val.zero.v) (res_box Tryz.results47 rfl (hR.set Val.zero).at') rfl ⟨by first | (rw [h]) | rfl, (hR.set Val.zero).hb⟩
    | true =>
      by_cases hkk : x.k = 4
      · obtain ⟨xk, xn, xs⟩ := x
        obtain rfl : xk = 4 := hkk
        have hz' : shownV ⟨4, xn, xs⟩ ≠ s → fromV s 4 = Val.zero := fun h => hz (fun h' => h h'.2.2)
        have hy' : shownV ⟨4, xn, xs⟩ = s → fromV s 4 = ⟨4, xn, xs⟩ := fun h => hy ⟨hf, rfl, h⟩
        have hS : ∀ W, Lit N W → N ≤ W.heap.size → Calls Tryz.prog 46 #[.agg #[.int .i64 4, .int .i64 xn, .string xs]] W fun e W' => e = .returned (.string (shownV ⟨4, xn, xs⟩)) ∧ Below W.heap.size W W' :=
          fun W hL hN => Tryz.shownF ⟨4, xn, xs⟩ hf (show (4 : Int) ≠ 0 by decide) W hL hN
        generalize shownV ⟨4, xn, xs⟩ = t at hz' hy' hS
        obtain ⟨hL3, hN3⟩ := hR.lit hL hN
        clear hz hy hf
        simp only at x0 x1 x2
        go_wp2_with fail
        refine (hS _ hL3 hN3).mono ?_
        rintro e w4 ⟨rfl, hb4⟩
        replace hX := hX.next hb4
        replace hR := hR.next hb4
        clear x0 x1 x2 c0 c1 c2 f0 f1 f2 hb4 hS
        obtain ⟨⟨x0, x1, x2⟩, _⟩ := hX.cells
        obtain ⟨⟨c0, c1, c2⟩, f0, f1, f2⟩ := free_zero hR.at'
        simp only at x0 x1 x2
        by_cases hd : t = s
        · have h := hy' hd
          clear hz' hy'
          rw [hd]
          clear hd
          go_wp2_with fail
          exact bodyPost_ret (v := (⟨4, xn, xs⟩ : Val).v) (res_box Tryz.results47 rfl (hR.set ⟨4, xn, xs⟩).at') rfl ⟨by first | (rw [h]) | rfl, (hR.set ⟨4, xn, xs⟩).hb⟩
        · have h := hz' hd
          have hds := str_no hd
          clear hz' hy' hd
          go_wp2_with fail
          exact bodyPost_ret (v := Val.zero.v) (res_box Tryz.results47 rfl (hR.set Val.zero).at') rfl ⟨by first | (rw [h]) | rfl, (hR.set Val.zero).hb⟩
      · have h := hz (fun h' => hkk h'.2.1)
        have hk1 : (x.k == 4) = false := by simp [hkk]
        have hk2 : (x.k != 4) = true := by simp [hkk]
        clear hz hy hf hkk
        go_wp2_with fail
        exact bodyPost_ret (v := Val.zero.v) (res_box Tryz.results47 rfl (hR.set Val.zero).at') rfl ⟨by first | (rw [h]) | rfl, (hR.set Val.zero).hb⟩

end Go.Proofs
