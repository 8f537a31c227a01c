/- ValueBack: the law walked. No condition but what the library's variables hold. -/
import Derived.Test.YtmnlcldhhlkpeaaGreatDoorCastC
import Derived.Test.YtmnlcldhhlkpeaaGreatDoorTxt
namespace Go.Proofs
open Go.RowKit

theorem same23 (x : Val) (W : World) : (binOp .neq 23 (.agg #[.int .i64 x.k, .int .i64 x.n, .string x.s]) (.agg #[.int .i64 x.k, .int .i64 x.n, .string x.s])).run Tryz.prog W = .ok (.bool false) W := by
  rw [neq23, show eq3 x.k x.n x.s x.k x.n x.s = true by simp [eq3]]
  rfl

theorem fine_plain_size (x : Val) (h : x.plain.k ≠ 0) : x.plain.s.size ≤ 100 := by
  rw [(plain_k h).2]
  exact fine_size (plain_k h).1

theorem plain_size (x : Val) : x.plain.s.size ≤ 100 := by
  unfold Val.plain
  split
  · rename_i h; exact fine_size h
  · exact Nat.zero_le _

theorem cast_size (x : Val) (k : Int) : (castV x k).s.size ≤ 1000 := by
  unfold castV
  split
  · exact Nat.zero_le _
  · split
    · have := plain_size x; omega
    · split
      · have := plain_size ⟨3, 0, shownV x.plain⟩
        show (Val.plain ⟨3, 0, shownV x.plain⟩).s.size ≤ 1000
        omega
      · split
        · unfold fromV
          split
          · rename_i h
            have := fine_size h.1
            omega
          · exact Nat.zero_le _
        · split
          · exact Nat.zero_le _
          · rw [numV_s]; exact Nat.zero_le _

theorem cast_can {x : Val} {k : Int} (h : canB x.k k = false) : (castV x k).k = 0 := by
  by_cases h0 : x.plain.k = 0
  · unfold castV
    rw [if_pos (Or.inl h0)]
    rfl
  · rw [cast_not x k (by rw [(plain_k h0).2]; exact h)]
    rfl

/-- The stream and both values, in the inner loop. -/
structure LAt (w W : World) (ad : Option Addr) (zs : List Int) (cap : Nat) (b : Int) (g5 g7 : Nat) (x y : Val) : Prop where
  live : Live W w.heap.size w.heap.size ad zs cap b
  bx : BoxAt w W g5 x
  by' : BoxAt w W g7 y

theorem LAt.next {w W W' : World} {ad : Option Addr} {zs : List Int} {cap : Nat} {b : Int} {g5 g7 : Nat} {x y : Val} (h : LAt w W ad zs cap b g5 g7 x y) (hb : Below W.heap.size W W') : LAt w W' ad zs cap b g5 g7 x y :=
  ⟨h.live.call hb, h.bx.next hb, h.by'.next hb⟩

theorem LAt.drew {w W : World} {ad : Option Addr} {zs : List Int} {cap : Nat} {b : Int} {g5 g7 : Nat} {x y : Val} (h : LAt w W ad zs cap b g5 g7 x y) : LAt w W.drew ad zs cap b g5 g7 x y := h.next (Below.refl _ _).drew

theorem LAt.held {w W : World} {ad : Option Addr} {zs : List Int} {cap : Nat} {b : Int} {g5 g7 : Nat} {x y : Val} (h : LAt w W ad zs cap b g5 g7 x y) :
    W.cell? ⟨g7, 0, none⟩ = some (.int .i64 y.k) ∧ W.cell? ⟨g7, 1, none⟩ = some (.int .i64 y.n) ∧ W.cell? ⟨g7, 2, none⟩ = some (.string y.s) ∧
    W.cell? ⟨g5, 0, none⟩ = some (.int .i64 x.k) ∧ W.cell? ⟨g5, 1, none⟩ = some (.int .i64 x.n) ∧ W.cell? ⟨g5, 2, none⟩ = some (.string x.s) ∧ LAt w W ad zs cap b g5 g7 x y := by
  obtain ⟨⟨c0, c1, c2⟩, _⟩ := h.by'.cells
  obtain ⟨⟨d0, d1, d2⟩, _⟩ := h.bx.cells
  exact ⟨c0, c1, c2, d0, d1, d2, h⟩

theorem LAt.lit {w W : World} {ad : Option Addr} {zs : List Int} {cap : Nat} {b : Int} {g5 g7 : Nat} {x y : Val} (h : LAt w W ad zs cap b g5 g7 x y) : Lit w.heap.size W ∧ w.heap.size ≤ W.heap.size := ⟨h.live.lit, h.bx.hb.size⟩

set_option maxRecDepth 20000 in
set_option maxHeartbeats 8000000 in
theorem Tryz.backLaw (zs : List Int) (ad : Option Addr) (cap : Nat) (w : World) (hz : IntsAt w w.heap.size ad zs) (hl : zs.length ≤ 9223372036854775807) (hL : Lit w.heap.size w)
    (hst : ∀ W, Below w.heap.size w W → Calls Tryz.prog 14 #[] W fun e W' => e = .returned (.bool true) ∧ Below W.heap.size W W') :
    Calls Tryz.prog 4 #[.slice ad zs.length cap] w fun e w' => e = .returned (.bool true) ∧ Below w.heap.size w w' := by
  have hb0 : Below w.heap.size w (w.alloc (.cells #[.slice ad zs.length cap, .int .i64 0] 31)) := (Below.refl _ _).alloc (Nat.le_refl _) _
  have hV0 : Live (w.alloc (.cells #[.slice ad zs.length cap, .int .i64 0] 31)) w.heap.size w.heap.size ad zs cap 0 := ⟨heap_alloc_new w _, hz.below hb0, Nat.le_refl _, hl, by omega, hL.on hb0⟩
  go_enter Tryz.func4, Tryz.ntmps4
  go_wp2_with fail
  generalize w.alloc (.cells #[.slice ad zs.length cap, .int .i64 0] 31) = W0 at hb0 hV0 ⊢
  clear hz hL
  go_loopw [4] (fun f wr => ∃ k a : Int, f = .int .i64 k ∧ 1 ≤ k ∧ k ≤ 5 ∧ a ≤ 6 * (k - 1) ∧ Live wr w.heap.size w.heap.size ad zs cap a ∧ Below w.heap.size w wr) (fun f _ => (6 - intOf f).toNat)
  case atStart => exact ⟨1, 0, rfl, by omega, by omega, by omega, hV0, hb0⟩
  case round =>
    obtain ⟨k, a, rfl, hk1, hk5, ha, hV, hb⟩ := hrel
    clear hV0 hb0
    by_cases hk4 : k ≤ 4
    rotate_left
    · go_wp2_with fail
      refine (hst _ hb).mono ?_
      rintro e w9 ⟨rfl, hb9⟩
      go_wp2_with fail
      go_ret
      exact ⟨rfl, hb.trans (hb9.mono hb.size)⟩
    go_wp2_with fail
    refine (Tryz.full hV (by omega) k ⟨hk1, hk4⟩).mono ?_
    rintro e W2 ⟨x, b, hxk, hxs, hba, rfl, hV2, hT2⟩
    have hb2 : Below w.heap.size w W2 := hb.trans hT2.below
    clear hV hb hT2
    replace hxk : Shut (x.k = k) := hxk
    simp only [Val.v, valV]
    go_wp2_with fail
    have hX := BoxAt.new x hb2
    have hV3 := hV2.alloc (.cells #[.int .i64 x.k, .int .i64 x.n, .string x.s] 23)
    generalize W2.alloc (.cells #[.int .i64 x.k, .int .i64 x.n, .string x.s] 23) = W3 at hX hV3 ⊢
    generalize W2.heap.size = g5 at hX ⊢
    clear hV2 hb2
    go_loopw [6] (fun t wr => ∃ j : Int, t = .int .i64 j ∧ 1 ≤ j ∧ j ≤ 5 ∧ Live wr w.heap.size w.heap.size ad zs cap b ∧ BoxAt w wr g5 x) (fun t _ => (6 - intOf t).toNat)
    case atStart => exact ⟨1, rfl, by omega, by omega, hV3, hX⟩
    case round =>
      obtain ⟨j, rfl, hj1, hj5, hVr, hXr⟩ := hrel
      clear hV3 hX
      by_cases hj4 : j ≤ 4
      rotate_left
      · go_wp2_with fail
        go_roundw
        case rel => exact ⟨k + 1, b, rfl, by omega, by omega, by omega, hVr, hXr.hb⟩
        case measure => simp [intOf]; omega
      obtain ⟨⟨x0, x1, x2⟩, _⟩ := hXr.cells
      go_wp2_with fail
      refine (Tryz.castF x j hxs ⟨hj1, hj4⟩ _ hVr.lit hXr.hb.size).mono ?_
      rintro e W4 ⟨rfl, hb4⟩
      replace hVr := hVr.call hb4
      replace hXr := hXr.next hb4
      clear x0 x1 x2 hb4
      have hysz := cast_size x j
      have hcan : canB k j = false → (castV x j).k = 0 := fun h => cast_can (by rw [hxk.out]; exact h)
      have hback : (castV x j).k ≠ 0 → ¬ (k = 2 ∧ j = 1) → castV (castV x j) k = x := fun h h' => by
        have := cast_back (v := x) ⟨hj1, hj4⟩ (by rw [hxk.out]; exact h') h
        rwa [hxk.out] at this
      generalize castV x j = y at hysz hcan hback ⊢
      simp only [Val.v, valV]
      go_upto_region 10 with fail
      have hY := BoxAt.new y hXr.hb
      replace hXr := hXr.alloc (.cells #[.int .i64 y.k, .int .i64 y.n, .string y.s] 23)
      replace hVr := hVr.alloc (.cells #[.int .i64 y.k, .int .i64 y.n, .string y.s] 23)
      generalize W4.alloc (.cells #[.int .i64 y.k, .int .i64 y.n, .string y.s] 23) = W5 at hXr hVr hY ⊢
      generalize W4.heap.size = g7 at hY ⊢
      have hA : LAt w W5 ad zs cap b g5 g7 x y := ⟨hVr, hXr, hY⟩
      clear hXr hVr hY
      have hC1 := fun W : World => Tryz.canF k j W
      have hC2 := fun W : World => Tryz.canF j k W
      rw [canB_comm j k] at hC2
      have hB1 : ∀ W, Lit w.heap.size W → w.heap.size ≤ W.heap.size → Calls Tryz.prog 16 #[.agg #[.int .i64 y.k, .int .i64 y.n, .string y.s], .int .i64 k] W fun e W' => e = .returned (castV y k).v ∧ Below W.heap.size W W' :=
        fun W hL hN => Tryz.castF y k hysz ⟨hk1, hk4⟩ W hL hN
      have hna := same23 x
      by_cases hy0 : y.k = 0
      · have hyb : (y.k == 0) = true := by simp [hy0]
        have hyc : (y.k != 0) = false := by simp [hy0]
        clear hcan hback hB1 hna
        cases hc : canB k j with
        | false =>
          rw [hc] at hC1 hC2
          clear hc hy0
          refine wp_region_held_drew (S := (fun w' => w'.cell? ⟨g7, 0, none⟩ = some (.int .i64 y.k) ∧ w'.cell? ⟨g7, 1, none⟩ = some (.int .i64 y.n) ∧ w'.cell? ⟨g7, 2, none⟩ = some (.string y.s) ∧ w'.cell? ⟨g5, 0, none⟩ = some (.int .i64 x.k) ∧ w'.cell? ⟨g5, 1, none⟩ = some (.int .i64 x.n) ∧ w'.cell? ⟨g5, 2, none⟩ = some (.string x.s) ∧ LAt w w' ad zs cap b g5 g7 x y)) (by kernel_rfl) (by exact hA.drew.held) (fun hHeld => ?_)
          replace hA := hA.drew
          generalize World.drew W5 = W6 at hA hHeld ⊢
          refine wpAnyH_take (i := 0) (oi := ?at1o) (v := .pointer (some ⟨g7, 0, none⟩)) ?at1h (by kernel_rfl) (by kernel_rfl) (by kernel_rfl) ?at1q (Or.inl ⟨?at1w, ?at1y⟩) (by assumption) ?at1r
          case at1h => rw [List.getElem?_toArray]; rfl
          case at1q => exact fun _ _ _ h => h
          case at1w => rfl
          case at1y =>
            intro w hSw
            go_simp
          simp only [Act.put, List.setIfInBounds_toArray, List.set_cons_zero, List.set_cons_succ]
          refine wpAnyH_take (i := 1) (oi := ?at2o) (v := .int .i64 y.k) ?at2h (by kernel_rfl) (by kernel_rfl) (by kernel_rfl) ?at2q (Or.inl ⟨?at2w, ?at2y⟩) (by assumption) ?at2r
          case at2h => rw [List.getElem?_toArray]; rfl
          case at2q => exact fun _ _ _ h => h
          case at2w => rfl
          case at2y =>
            intro w hSw
            go_simp
          simp only [Act.put, List.setIfInBounds_toArray, List.set_cons_zero, List.set_cons_succ]
          refine wpAnyH_take (i := 2) (oi := ?at3o) (v := .bool false) ?at3h (by kernel_rfl) (by kernel_rfl) (by kernel_rfl) ?at3q (Or.inl ⟨?at3w, ?at3y⟩) (by assumption) ?at3r
          case at3h => rw [List.getElem?_toArray]; rfl
          case at3q => exact fun _ _ _ h => h
          case at3w => rfl
          case at3y =>
            intro w hSw
            go_simp
          simp only [Act.put, List.setIfInBounds_toArray, List.set_cons_zero, List.set_cons_succ]
          refine wpAnyH_take (i := 3) (oi := ?at4o) (v := .bool false) ?at4h (by kernel_rfl) (by kernel_rfl) (by kernel_rfl) ?at4q (Or.inl ⟨?at4w, ?at4y⟩) (by assumption) ?at4r
          case at4h => rw [List.getElem?_toArray]; rfl
          case at4q => exact fun _ _ _ h => h
          case at4w => rfl
          case at4y =>
            intro w hSw
            go_simp
          simp only [Act.put, List.setIfInBounds_toArray, List.set_cons_zero, List.set_cons_succ]
          refine wpAnyH_take (i := 4) (oi := ?at5o) (v := undef) ?at5h (by kernel_rfl) (by kernel_rfl) (by kernel_rfl) ?at5q (Or.inr ⟨?at5w, rfl⟩) (by assumption) ?at5r
          case at5h => rw [List.getElem?_toArray]; rfl
          case at5q => exact fun _ _ _ h => h
          case at5w => rfl
          simp only [Act.put, List.setIfInBounds_toArray, List.set_cons_zero, List.set_cons_succ]
          refine wpAnyH_take (i := 5) (oi := ?at6o) (v := undef) ?at6h (by kernel_rfl) (by kernel_rfl) (by kernel_rfl) ?at6q (Or.inr ⟨?at6w, rfl⟩) (by assumption) ?at6r
          case at6h => rw [List.getElem?_toArray]; rfl
          case at6q => exact fun _ _ _ h => h
          case at6w => rfl
          simp only [Act.put, List.setIfInBounds_toArray, List.set_cons_zero, List.set_cons_succ]
          refine wpAnyH_take (i := 6) (oi := ?at7o) (v := undef) ?at7h (by kernel_rfl) (by kernel_rfl) (by kernel_rfl) ?at7q (Or.inr ⟨?at7w, rfl⟩) (by assumption) ?at7r
          case at7h => rw [List.getElem?_toArray]; rfl
          case at7q => exact fun _ _ _ h => h
          case at7w => rfl
          simp only [Act.put, List.setIfInBounds_toArray, List.set_cons_zero, List.set_cons_succ]
          refine wpAnyH_take (i := 7) (oi := ?at8o) (v := undef) ?at8h (by kernel_rfl) (by kernel_rfl) (by kernel_rfl) ?at8q (Or.inr ⟨?at8w, rfl⟩) (by assumption) ?at8r
          case at8h => rw [List.getElem?_toArray]; rfl
          case at8q => exact fun _ _ _ h => h
          case at8w => rfl
          simp only [Act.put, List.setIfInBounds_toArray, List.set_cons_zero, List.set_cons_succ]
          refine wpAnyH_take (i := 8) (oi := ?at9o) (v := undef) ?at9h (by kernel_rfl) (by kernel_rfl) (by kernel_rfl) ?at9q (Or.inr ⟨?at9w, rfl⟩) (by assumption) ?at9r
          case at9h => rw [List.getElem?_toArray]; rfl
          case at9q => exact fun _ _ _ h => h
          case at9w => rfl
          simp only [Act.put, List.setIfInBounds_toArray, List.set_cons_zero, List.set_cons_succ]
          refine wpAnyH_take (i := 9) (oi := ?at10o) (v := undef) ?at10h (by kernel_rfl) (by kernel_rfl) (by kernel_rfl) ?at10q (Or.inr ⟨?at10w, rfl⟩) (by assumption) ?at10r
          case at10h => rw [List.getElem?_toArray]; rfl
          case at10q => exact fun _ _ _ h => h
          case at10w => rfl
          simp only [Act.put, List.setIfInBounds_toArray, List.set_cons_zero, List.set_cons_succ]
          refine wpAnyH_take (i := 10) (oi := ?at11o) (v := .bool false) ?at11h (by kernel_rfl) (by kernel_rfl) (by kernel_rfl) ?at11q (Or.inl ⟨?at11w, ?at11y⟩) (by assumption) ?at11r
          case at11h => rw [List.getElem?_toArray]; rfl
          case at11q => exact fun _ _ _ h => h
          case at11w => rfl
          case at11y =>
            intro w hSw
            go_simp
          simp only [Act.put, List.setIfInBounds_toArray, List.set_cons_zero, List.set_cons_succ]
          refine wpAnyH_take (i := 11) (oi := ?at12o) (v := .bool false) ?at12h (by kernel_rfl) (by kernel_rfl) (by kernel_rfl) ?at12q (Or.inl ⟨?at12w, ?at12y⟩) (by assumption) ?at12r
          case at12h => rw [List.getElem?_toArray]; rfl
          case at12q => exact fun _ _ _ h => h
          case at12w => rfl
          case at12y =>
            intro w hSw
            go_simp
          simp only [Act.put, List.setIfInBounds_toArray, List.set_cons_zero, List.set_cons_succ]
          refine wpAnyH_take (i := 12) (oi := ?at13o) (v := undef) ?at13h (by kernel_rfl) (by kernel_rfl) (by kernel_rfl) ?at13q (Or.inr ⟨?at13w, rfl⟩) (by assumption) ?at13r
          case at13h => rw [List.getElem?_toArray]; rfl
          case at13q => exact fun _ _ _ h => h
          case at13w => rfl
          simp only [Act.put, List.setIfInBounds_toArray, List.set_cons_zero, List.set_cons_succ]
          refine wpAnyH_take (i := 13) (oi := ?at14o) (v := undef) ?at14h (by kernel_rfl) (by kernel_rfl) (by kernel_rfl) ?at14q (Or.inr ⟨?at14w, rfl⟩) (by assumption) ?at14r
          case at14h => rw [List.getElem?_toArray]; rfl
          case at14q => exact fun _ _ _ h => h
          case at14w => rfl
          simp only [Act.put, List.setIfInBounds_toArray, List.set_cons_zero, List.set_cons_succ]
          refine wpAnyH_take (i := 14) (oi := ?at15o) (v := undef) ?at15h (by kernel_rfl) (by kernel_rfl) (by kernel_rfl) ?at15q (Or.inr ⟨?at15w, rfl⟩) (by assumption) ?at15r
          case at15h => rw [List.getElem?_toArray]; rfl
          case at15q => exact fun _ _ _ h => h
          case at15w => rfl
          simp only [Act.put, List.setIfInBounds_toArray, List.set_cons_zero, List.set_cons_succ]
          refine wpAnyH_take (i := 15) (oi := ?at16o) (v := undef) ?at16h (by kernel_rfl) (by kernel_rfl) (by kernel_rfl) ?at16q (Or.inr ⟨?at16w, rfl⟩) (by assumption) ?at16r
          case at16h => rw [List.getElem?_toArray]; rfl
          case at16q => exact fun _ _ _ h => h
          case at16w => rfl
          simp only [Act.put, List.setIfInBounds_toArray, List.set_cons_zero, List.set_cons_succ]
          refine wpAnyH_take (i := 16) (oi := ?at17o) (v := undef) ?at17h (by kernel_rfl) (by kernel_rfl) (by kernel_rfl) ?at17q (Or.inr ⟨?at17w, rfl⟩) (by assumption) ?at17r
          case at17h => rw [List.getElem?_toArray]; rfl
          case at17q => exact fun _ _ _ h => h
          case at17w => rfl
          simp only [Act.put, List.setIfInBounds_toArray, List.set_cons_zero, List.set_cons_succ]
          refine wpAnyH_take (i := 17) (oi := ?at18o) (v := .bool false) ?at18h (by kernel_rfl) (by kernel_rfl) (by kernel_rfl) ?at18q (Or.inl ⟨?at18w, ?at18y⟩) (by assumption) ?at18r
          case at18h => rw [List.getElem?_toArray]; rfl
          case at18q => exact fun _ _ _ h => h
          case at18w => rfl
          case at18y =>
            intro w hSw
            go_simp
          simp only [Act.put, List.setIfInBounds_toArray, List.set_cons_zero, List.set_cons_succ]
          refine wpAnyH_done (by kernel_rfl) ?_ _
          clear hHeld
          obtain ⟨⟨y0, y1, y2⟩, _⟩ := hA.by'.cells
          go_wp2_with (go_at_call 17; first | (with_reducible refine Calls.mono (hC1 _) ?_; rintro e w9 ⟨rfl, rfl⟩) | (with_reducible refine Calls.mono (hC2 _) ?_; rintro e w9 ⟨rfl, rfl⟩))
          go_roundw
          case rel => exact ⟨j + 1, rfl, by omega, by omega, hA.live, hA.bx⟩
          case measure => simp [intOf]; omega
        | true =>
          rw [hc] at hC1 hC2
          clear hc hy0
          refine wp_region_held_drew (S := (fun w' => w'.cell? ⟨g7, 0, none⟩ = some (.int .i64 y.k) ∧ w'.cell? ⟨g7, 1, none⟩ = some (.int .i64 y.n) ∧ w'.cell? ⟨g7, 2, none⟩ = some (.string y.s) ∧ w'.cell? ⟨g5, 0, none⟩ = some (.int .i64 x.k) ∧ w'.cell? ⟨g5, 1, none⟩ = some (.int .i64 x.n) ∧ w'.cell? ⟨g5, 2, none⟩ = some (.string x.s) ∧ LAt w w' ad zs cap b g5 g7 x y)) (by kernel_rfl) (by exact hA.drew.held) (fun hHeld => ?_)
          replace hA := hA.drew
          generalize World.drew W5 = W6 at hA hHeld ⊢
          refine wpAnyH_take (i := 0) (oi := ?bt1o) (v := .pointer (some ⟨g7, 0, none⟩)) ?bt1h (by kernel_rfl) (by kernel_rfl) (by kernel_rfl) ?bt1q (Or.inl ⟨?bt1w, ?bt1y⟩) (by assumption) ?bt1r
          case bt1h => rw [List.getElem?_toArray]; rfl
          case bt1q => exact fun _ _ _ h => h
          case bt1w => rfl
          case bt1y =>
            intro w hSw
            go_simp
          simp only [Act.put, List.setIfInBounds_toArray, List.set_cons_zero, List.set_cons_succ]
          refine wpAnyH_take (i := 1) (oi := ?bt2o) (v := .int .i64 y.k) ?bt2h (by kernel_rfl) (by kernel_rfl) (by kernel_rfl) ?bt2q (Or.inl ⟨?bt2w, ?bt2y⟩) (by assumption) ?bt2r
          case bt2h => rw [List.getElem?_toArray]; rfl
          case bt2q => exact fun _ _ _ h => h
          case bt2w => rfl
          case bt2y =>
            intro w hSw
            go_simp
          simp only [Act.put, List.setIfInBounds_toArray, List.set_cons_zero, List.set_cons_succ]
          refine wpAnyH_take (i := 2) (oi := ?bt3o) (v := .bool false) ?bt3h (by kernel_rfl) (by kernel_rfl) (by kernel_rfl) ?bt3q (Or.inl ⟨?bt3w, ?bt3y⟩) (by assumption) ?bt3r
          case bt3h => rw [List.getElem?_toArray]; rfl
          case bt3q => exact fun _ _ _ h => h
          case bt3w => rfl
          case bt3y =>
            intro w hSw
            go_simp
          simp only [Act.put, List.setIfInBounds_toArray, List.set_cons_zero, List.set_cons_succ]
          refine wpAnyH_take (i := 3) (oi := ?bt4o) (v := .bool false) ?bt4h (by kernel_rfl) (by kernel_rfl) (by kernel_rfl) ?bt4q (Or.inl ⟨?bt4w, ?bt4y⟩) (by assumption) ?bt4r
          case bt4h => rw [List.getElem?_toArray]; rfl
          case bt4q => exact fun _ _ _ h => h
          case bt4w => rfl
          case bt4y =>
            intro w hSw
            go_simp
          simp only [Act.put, List.setIfInBounds_toArray, List.set_cons_zero, List.set_cons_succ]
          refine wpAnyH_take (i := 4) (oi := ?bt5o) (v := undef) ?bt5h (by kernel_rfl) (by kernel_rfl) (by kernel_rfl) ?bt5q (Or.inr ⟨?bt5w, rfl⟩) (by assumption) ?bt5r
          case bt5h => rw [List.getElem?_toArray]; rfl
          case bt5q => exact fun _ _ _ h => h
          case bt5w => rfl
          simp only [Act.put, List.setIfInBounds_toArray, List.set_cons_zero, List.set_cons_succ]
          refine wpAnyH_take (i := 5) (oi := ?bt6o) (v := undef) ?bt6h (by kernel_rfl) (by kernel_rfl) (by kernel_rfl) ?bt6q (Or.inr ⟨?bt6w, rfl⟩) (by assumption) ?bt6r
          case bt6h => rw [List.getElem?_toArray]; rfl
          case bt6q => exact fun _ _ _ h => h
          case bt6w => rfl
          simp only [Act.put, List.setIfInBounds_toArray, List.set_cons_zero, List.set_cons_succ]
          refine wpAnyH_take (i := 6) (oi := ?bt7o) (v := undef) ?bt7h (by kernel_rfl) (by kernel_rfl) (by kernel_rfl) ?bt7q (Or.inr ⟨?bt7w, rfl⟩) (by assumption) ?bt7r
          case bt7h => rw [List.getElem?_toArray]; rfl
          case bt7q => exact fun _ _ _ h => h
          case bt7w => rfl
          simp only [Act.put, List.setIfInBounds_toArray, List.set_cons_zero, List.set_cons_succ]
          refine wpAnyH_take (i := 7) (oi := ?bt8o) (v := undef) ?bt8h (by kernel_rfl) (by kernel_rfl) (by kernel_rfl) ?bt8q (Or.inr ⟨?bt8w, rfl⟩) (by assumption) ?bt8r
          case bt8h => rw [List.getElem?_toArray]; rfl
          case bt8q => exact fun _ _ _ h => h
          case bt8w => rfl
          simp only [Act.put, List.setIfInBounds_toArray, List.set_cons_zero, List.set_cons_succ]
          refine wpAnyH_take (i := 8) (oi := ?bt9o) (v := undef) ?bt9h (by kernel_rfl) (by kernel_rfl) (by kernel_rfl) ?bt9q (Or.inr ⟨?bt9w, rfl⟩) (by assumption) ?bt9r
          case bt9h => rw [List.getElem?_toArray]; rfl
          case bt9q => exact fun _ _ _ h => h
          case bt9w => rfl
          simp only [Act.put, List.setIfInBounds_toArray, List.set_cons_zero, List.set_cons_succ]
          refine wpAnyH_take (i := 9) (oi := ?bt10o) (v := undef) ?bt10h (by kernel_rfl) (by kernel_rfl) (by kernel_rfl) ?bt10q (Or.inr ⟨?bt10w, rfl⟩) (by assumption) ?bt10r
          case bt10h => rw [List.getElem?_toArray]; rfl
          case bt10q => exact fun _ _ _ h => h
          case bt10w => rfl
          simp only [Act.put, List.setIfInBounds_toArray, List.set_cons_zero, List.set_cons_succ]
          refine wpAnyH_take (i := 10) (oi := ?bt11o) (v := .bool false) ?bt11h (by kernel_rfl) (by kernel_rfl) (by kernel_rfl) ?bt11q (Or.inl ⟨?bt11w, ?bt11y⟩) (by assumption) ?bt11r
          case bt11h => rw [List.getElem?_toArray]; rfl
          case bt11q => exact fun _ _ _ h => h
          case bt11w => rfl
          case bt11y =>
            intro w hSw
            go_simp
          simp only [Act.put, List.setIfInBounds_toArray, List.set_cons_zero, List.set_cons_succ]
          refine wpAnyH_take (i := 11) (oi := ?bt12o) (v := .bool false) ?bt12h (by kernel_rfl) (by kernel_rfl) (by kernel_rfl) ?bt12q (Or.inl ⟨?bt12w, ?bt12y⟩) (by assumption) ?bt12r
          case bt12h => rw [List.getElem?_toArray]; rfl
          case bt12q => exact fun _ _ _ h => h
          case bt12w => rfl
          case bt12y =>
            intro w hSw
            go_simp
          simp only [Act.put, List.setIfInBounds_toArray, List.set_cons_zero, List.set_cons_succ]
          refine wpAnyH_take (i := 12) (oi := ?bt13o) (v := undef) ?bt13h (by kernel_rfl) (by kernel_rfl) (by kernel_rfl) ?bt13q (Or.inr ⟨?bt13w, rfl⟩) (by assumption) ?bt13r
          case bt13h => rw [List.getElem?_toArray]; rfl
          case bt13q => exact fun _ _ _ h => h
          case bt13w => rfl
          simp only [Act.put, List.setIfInBounds_toArray, List.set_cons_zero, List.set_cons_succ]
          refine wpAnyH_take (i := 13) (oi := ?bt14o) (v := undef) ?bt14h (by kernel_rfl) (by kernel_rfl) (by kernel_rfl) ?bt14q (Or.inr ⟨?bt14w, rfl⟩) (by assumption) ?bt14r
          case bt14h => rw [List.getElem?_toArray]; rfl
          case bt14q => exact fun _ _ _ h => h
          case bt14w => rfl
          simp only [Act.put, List.setIfInBounds_toArray, List.set_cons_zero, List.set_cons_succ]
          refine wpAnyH_take (i := 14) (oi := ?bt15o) (v := undef) ?bt15h (by kernel_rfl) (by kernel_rfl) (by kernel_rfl) ?bt15q (Or.inr ⟨?bt15w, rfl⟩) (by assumption) ?bt15r
          case bt15h => rw [List.getElem?_toArray]; rfl
          case bt15q => exact fun _ _ _ h => h
          case bt15w => rfl
          simp only [Act.put, List.setIfInBounds_toArray, List.set_cons_zero, List.set_cons_succ]
          refine wpAnyH_take (i := 15) (oi := ?bt16o) (v := undef) ?bt16h (by kernel_rfl) (by kernel_rfl) (by kernel_rfl) ?bt16q (Or.inr ⟨?bt16w, rfl⟩) (by assumption) ?bt16r
          case bt16h => rw [List.getElem?_toArray]; rfl
          case bt16q => exact fun _ _ _ h => h
          case bt16w => rfl
          simp only [Act.put, List.setIfInBounds_toArray, List.set_cons_zero, List.set_cons_succ]
          refine wpAnyH_take (i := 16) (oi := ?bt17o) (v := undef) ?bt17h (by kernel_rfl) (by kernel_rfl) (by kernel_rfl) ?bt17q (Or.inr ⟨?bt17w, rfl⟩) (by assumption) ?bt17r
          case bt17h => rw [List.getElem?_toArray]; rfl
          case bt17q => exact fun _ _ _ h => h
          case bt17w => rfl
          simp only [Act.put, List.setIfInBounds_toArray, List.set_cons_zero, List.set_cons_succ]
          refine wpAnyH_take (i := 17) (oi := ?bt18o) (v := .bool false) ?bt18h (by kernel_rfl) (by kernel_rfl) (by kernel_rfl) ?bt18q (Or.inl ⟨?bt18w, ?bt18y⟩) (by assumption) ?bt18r
          case bt18h => rw [List.getElem?_toArray]; rfl
          case bt18q => exact fun _ _ _ h => h
          case bt18w => rfl
          case bt18y =>
            intro w hSw
            go_simp
          simp only [Act.put, List.setIfInBounds_toArray, List.set_cons_zero, List.set_cons_succ]
          refine wpAnyH_done (by kernel_rfl) ?_ _
          clear hHeld
          obtain ⟨⟨y0, y1, y2⟩, _⟩ := hA.by'.cells
          go_wp2_with (go_at_call 17; first | (with_reducible refine Calls.mono (hC1 _) ?_; rintro e w9 ⟨rfl, rfl⟩) | (with_reducible refine Calls.mono (hC2 _) ?_; rintro e w9 ⟨rfl, rfl⟩))
          go_roundw
          case rel => exact ⟨j + 1, rfl, by omega, by omega, hA.live, hA.bx⟩
          case measure => simp [intOf]; omega
      · have hyb : (y.k == 0) = false := by simp [hy0]
        have hyc : (y.k != 0) = true := by simp [hy0]
        have hc : canB k j = true := by
          cases hc : canB k j with
          | false => exact absurd (hcan hc) hy0
          | true => rfl
        rw [hc] at hC1 hC2
        clear hc hcan
        by_cases hk2 : k = 2
        · subst hk2
          by_cases hj1' : j = 1
          · subst hj1'
            clear hback hB1 hna hy0
            refine wp_region_held_drew (S := (fun w' => w'.cell? ⟨g7, 0, none⟩ = some (.int .i64 y.k) ∧ w'.cell? ⟨g7, 1, none⟩ = some (.int .i64 y.n) ∧ w'.cell? ⟨g7, 2, none⟩ = some (.string y.s) ∧ w'.cell? ⟨g5, 0, none⟩ = some (.int .i64 x.k) ∧ w'.cell? ⟨g5, 1, none⟩ = some (.int .i64 x.n) ∧ w'.cell? ⟨g5, 2, none⟩ = some (.string x.s) ∧ LAt w w' ad zs cap b g5 g7 x y)) (by kernel_rfl) (by exact hA.drew.held) (fun hHeld => ?_)
            replace hA := hA.drew
            generalize World.drew W5 = W6 at hA hHeld ⊢
            refine wpAnyH_take (i := 0) (oi := ?ct1o) (v := .pointer (some ⟨g7, 0, none⟩)) ?ct1h (by kernel_rfl) (by kernel_rfl) (by kernel_rfl) ?ct1q (Or.inl ⟨?ct1w, ?ct1y⟩) (by assumption) ?ct1r
            case ct1h => rw [List.getElem?_toArray]; rfl
            case ct1q => exact fun _ _ _ h => h
            case ct1w => rfl
            case ct1y =>
              intro w hSw
              go_simp
            simp only [Act.put, List.setIfInBounds_toArray, List.set_cons_zero, List.set_cons_succ]
            refine wpAnyH_take (i := 1) (oi := ?ct2o) (v := .int .i64 y.k) ?ct2h (by kernel_rfl) (by kernel_rfl) (by kernel_rfl) ?ct2q (Or.inl ⟨?ct2w, ?ct2y⟩) (by assumption) ?ct2r
            case ct2h => rw [List.getElem?_toArray]; rfl
            case ct2q => exact fun _ _ _ h => h
            case ct2w => rfl
            case ct2y =>
              intro w hSw
              go_simp
            simp only [Act.put, List.setIfInBounds_toArray, List.set_cons_zero, List.set_cons_succ]
            refine wpAnyH_take (i := 2) (oi := ?ct3o) (v := .bool true) ?ct3h (by kernel_rfl) (by kernel_rfl) (by kernel_rfl) ?ct3q (Or.inl ⟨?ct3w, ?ct3y⟩) (by assumption) ?ct3r
            case ct3h => rw [List.getElem?_toArray]; rfl
            case ct3q => exact fun _ _ _ h => h
            case ct3w => rfl
            case ct3y =>
              intro w hSw
              go_simp
            simp only [Act.put, List.setIfInBounds_toArray, List.set_cons_zero, List.set_cons_succ]
            refine wpAnyH_take (i := 3) (oi := ?ct4o) (v := .bool true) ?ct4h (by kernel_rfl) (by kernel_rfl) (by kernel_rfl) ?ct4q (Or.inl ⟨?ct4w, ?ct4y⟩) (by assumption) ?ct4r
            case ct4h => rw [List.getElem?_toArray]; rfl
            case ct4q => exact fun _ _ _ h => h
            case ct4w => rfl
            case ct4y =>
              intro w hSw
              go_simp
            simp only [Act.put, List.setIfInBounds_toArray, List.set_cons_zero, List.set_cons_succ]
            refine wpAnyH_take (i := 4) (oi := ?ct5o) (v := .int .i64 2) ?ct5h (by kernel_rfl) (by kernel_rfl) (by kernel_rfl) ?ct5q (Or.inl ⟨?ct5w, ?ct5y⟩) (by assumption) ?ct5r
            case ct5h => rw [List.getElem?_toArray]; rfl
            case ct5q => exact fun _ _ _ h => h
            case ct5w => rfl
            case ct5y =>
              intro w hSw
              go_simp
            simp only [Act.put, List.setIfInBounds_toArray, List.set_cons_zero, List.set_cons_succ]
            refine wpAnyH_take (i := 5) (oi := ?ct6o) (v := .bool false) ?ct6h (by kernel_rfl) (by kernel_rfl) (by kernel_rfl) ?ct6q (Or.inl ⟨?ct6w, ?ct6y⟩) (by assumption) ?ct6r
            case ct6h => rw [List.getElem?_toArray]; rfl
            case ct6q => exact fun _ _ _ h => h
            case ct6w => rfl
            case ct6y =>
              intro w hSw
              go_simp
            simp only [Act.put, List.setIfInBounds_toArray, List.set_cons_zero, List.set_cons_succ]
            refine wpAnyH_take (i := 6) (oi := ?ct7o) (v := .bool false) ?ct7h (by kernel_rfl) (by kernel_rfl) (by kernel_rfl) ?ct7q (Or.inl ⟨?ct7w, ?ct7y⟩) (by assumption) ?ct7r
            case ct7h => rw [List.getElem?_toArray]; rfl
            case ct7q => exact fun _ _ _ h => h
            case ct7w => rfl
            case ct7y =>
              intro w hSw
              go_simp
            simp only [Act.put, List.setIfInBounds_toArray, List.set_cons_zero, List.set_cons_succ]
            refine wpAnyH_take (i := 7) (oi := ?ct8o) (v := .int .i64 1) ?ct8h (by kernel_rfl) (by kernel_rfl) (by kernel_rfl) ?ct8q (Or.inl ⟨?ct8w, ?ct8y⟩) (by assumption) ?ct8r
            case ct8h => rw [List.getElem?_toArray]; rfl
            case ct8q => exact fun _ _ _ h => h
            case ct8w => rfl
            case ct8y =>
              intro w hSw
              go_simp
            simp only [Act.put, List.setIfInBounds_toArray, List.set_cons_zero, List.set_cons_succ]
            refine wpAnyH_take (i := 8) (oi := ?ct9o) (v := .bool false) ?ct9h (by kernel_rfl) (by kernel_rfl) (by kernel_rfl) ?ct9q (Or.inl ⟨?ct9w, ?ct9y⟩) (by assumption) ?ct9r
            case ct9h => rw [List.getElem?_toArray]; rfl
            case ct9q => exact fun _ _ _ h => h
            case ct9w => rfl
            case ct9y =>
              intro w hSw
              go_simp
            simp only [Act.put, List.setIfInBounds_toArray, List.set_cons_zero, List.set_cons_succ]
            refine wpAnyH_take (i := 9) (oi := ?ct10o) (v := .bool false) ?ct10h (by kernel_rfl) (by kernel_rfl) (by kernel_rfl) ?ct10q (Or.inl ⟨?ct10w, ?ct10y⟩) (by assumption) ?ct10r
            case ct10h => rw [List.getElem?_toArray]; rfl
            case ct10q => exact fun _ _ _ h => h
            case ct10w => rfl
            case ct10y =>
              intro w hSw
              go_simp
            simp only [Act.put, List.setIfInBounds_toArray, List.set_cons_zero, List.set_cons_succ]
            refine wpAnyH_take (i := 10) (oi := ?ct11o) (v := .bool false) ?ct11h (by kernel_rfl) (by kernel_rfl) (by kernel_rfl) ?ct11q (Or.inl ⟨?ct11w, ?ct11y⟩) (by assumption) ?ct11r
            case ct11h => rw [List.getElem?_toArray]; rfl
            case ct11q => exact fun _ _ _ h => h
            case ct11w => rfl
            case ct11y =>
              intro w hSw
              go_simp
            simp only [Act.put, List.setIfInBounds_toArray, List.set_cons_zero, List.set_cons_succ]
            refine wpAnyH_take (i := 11) (oi := ?ct12o) (v := .bool false) ?ct12h (by kernel_rfl) (by kernel_rfl) (by kernel_rfl) ?ct12q (Or.inl ⟨?ct12w, ?ct12y⟩) (by assumption) ?ct12r
            case ct12h => rw [List.getElem?_toArray]; rfl
            case ct12q => exact fun _ _ _ h => h
            case ct12w => rfl
            case ct12y =>
              intro w hSw
              go_simp
            simp only [Act.put, List.setIfInBounds_toArray, List.set_cons_zero, List.set_cons_succ]
            refine wpAnyH_take (i := 12) (oi := ?ct13o) (v := undef) ?ct13h (by kernel_rfl) (by kernel_rfl) (by kernel_rfl) ?ct13q (Or.inr ⟨?ct13w, rfl⟩) (by assumption) ?ct13r
            case ct13h => rw [List.getElem?_toArray]; rfl
            case ct13q => exact fun _ _ _ h => h
            case ct13w => rfl
            simp only [Act.put, List.setIfInBounds_toArray, List.set_cons_zero, List.set_cons_succ]
            refine wpAnyH_take (i := 13) (oi := ?ct14o) (v := undef) ?ct14h (by kernel_rfl) (by kernel_rfl) (by kernel_rfl) ?ct14q (Or.inr ⟨?ct14w, rfl⟩) (by assumption) ?ct14r
            case ct14h => rw [List.getElem?_toArray]; rfl
            case ct14q => exact fun _ _ _ h => h
            case ct14w => rfl
            simp only [Act.put, List.setIfInBounds_toArray, List.set_cons_zero, List.set_cons_succ]
            refine wpAnyH_take (i := 14) (oi := ?ct15o) (v := undef) ?ct15h (by kernel_rfl) (by kernel_rfl) (by kernel_rfl) ?ct15q (Or.inr ⟨?ct15w, rfl⟩) (by assumption) ?ct15r
            case ct15h => rw [List.getElem?_toArray]; rfl
            case ct15q => exact fun _ _ _ h => h
            case ct15w => rfl
            simp only [Act.put, List.setIfInBounds_toArray, List.set_cons_zero, List.set_cons_succ]
            refine wpAnyH_take (i := 15) (oi := ?ct16o) (v := undef) ?ct16h (by kernel_rfl) (by kernel_rfl) (by kernel_rfl) ?ct16q (Or.inr ⟨?ct16w, rfl⟩) (by assumption) ?ct16r
            case ct16h => rw [List.getElem?_toArray]; rfl
            case ct16q => exact fun _ _ _ h => h
            case ct16w => rfl
            simp only [Act.put, List.setIfInBounds_toArray, List.set_cons_zero, List.set_cons_succ]
            refine wpAnyH_take (i := 16) (oi := ?ct17o) (v := undef) ?ct17h (by kernel_rfl) (by kernel_rfl) (by kernel_rfl) ?ct17q (Or.inr ⟨?ct17w, rfl⟩) (by assumption) ?ct17r
            case ct17h => rw [List.getElem?_toArray]; rfl
            case ct17q => exact fun _ _ _ h => h
            case ct17w => rfl
            simp only [Act.put, List.setIfInBounds_toArray, List.set_cons_zero, List.set_cons_succ]
            refine wpAnyH_take (i := 17) (oi := ?ct18o) (v := .bool false) ?ct18h (by kernel_rfl) (by kernel_rfl) (by kernel_rfl) ?ct18q (Or.inl ⟨?ct18w, ?ct18y⟩) (by assumption) ?ct18r
            case ct18h => rw [List.getElem?_toArray]; rfl
            case ct18q => exact fun _ _ _ h => h
            case ct18w => rfl
            case ct18y =>
              intro w hSw
              go_simp
            simp only [Act.put, List.setIfInBounds_toArray, List.set_cons_zero, List.set_cons_succ]
            refine wpAnyH_done (by kernel_rfl) ?_ _
            clear hHeld
            obtain ⟨⟨y0, y1, y2⟩, _⟩ := hA.by'.cells
            go_wp2_with (go_at_call 17; first | (with_reducible refine Calls.mono (hC1 _) ?_; rintro e w9 ⟨rfl, rfl⟩) | (with_reducible refine Calls.mono (hC2 _) ?_; rintro e w9 ⟨rfl, rfl⟩))
            go_roundw
            case rel => exact ⟨2, rfl, by omega, by omega, hA.live, hA.bx⟩
            case measure => simp [intOf]
          · have hbk := hback hy0 (fun h => hj1' h.2)
            rw [hbk] at hB1
            have hjb : (j == 1) = false := by simp [hj1']
            have hjc : (j != 1) = true := by simp [hj1']
            unfold Val.v valV at hB1
            clear hback hbk hy0 hj1'
            refine wp_region_held_drew (S := (fun w' => w'.cell? ⟨g7, 0, none⟩ = some (.int .i64 y.k) ∧ w'.cell? ⟨g7, 1, none⟩ = some (.int .i64 y.n) ∧ w'.cell? ⟨g7, 2, none⟩ = some (.string y.s) ∧ w'.cell? ⟨g5, 0, none⟩ = some (.int .i64 x.k) ∧ w'.cell? ⟨g5, 1, none⟩ = some (.int .i64 x.n) ∧ w'.cell? ⟨g5, 2, none⟩ = some (.string x.s) ∧ LAt w w' ad zs cap b g5 g7 x y)) (by kernel_rfl) (by exact hA.drew.held) (fun hHeld => ?_)
            replace hA := hA.drew
            generalize World.drew W5 = W6 at hA hHeld ⊢
            refine wpAnyH_take (i := 0) (oi := ?dt1o) (v := .pointer (some ⟨g7, 0, none⟩)) ?dt1h (by kernel_rfl) (by kernel_rfl) (by kernel_rfl) ?dt1q (Or.inl ⟨?dt1w, ?dt1y⟩) (by assumption) ?dt1r
            case dt1h => rw [List.getElem?_toArray]; rfl
            case dt1q => exact fun _ _ _ h => h
            case dt1w => rfl
            case dt1y =>
              intro w hSw
              go_simp
            simp only [Act.put, List.setIfInBounds_toArray, List.set_cons_zero, List.set_cons_succ]
            refine wpAnyH_take (i := 1) (oi := ?dt2o) (v := .int .i64 y.k) ?dt2h (by kernel_rfl) (by kernel_rfl) (by kernel_rfl) ?dt2q (Or.inl ⟨?dt2w, ?dt2y⟩) (by assumption) ?dt2r
            case dt2h => rw [List.getElem?_toArray]; rfl
            case dt2q => exact fun _ _ _ h => h
            case dt2w => rfl
            case dt2y =>
              intro w hSw
              go_simp
            simp only [Act.put, List.setIfInBounds_toArray, List.set_cons_zero, List.set_cons_succ]
            refine wpAnyH_take (i := 2) (oi := ?dt3o) (v := .bool true) ?dt3h (by kernel_rfl) (by kernel_rfl) (by kernel_rfl) ?dt3q (Or.inl ⟨?dt3w, ?dt3y⟩) (by assumption) ?dt3r
            case dt3h => rw [List.getElem?_toArray]; rfl
            case dt3q => exact fun _ _ _ h => h
            case dt3w => rfl
            case dt3y =>
              intro w hSw
              go_simp
            simp only [Act.put, List.setIfInBounds_toArray, List.set_cons_zero, List.set_cons_succ]
            refine wpAnyH_take (i := 3) (oi := ?dt4o) (v := .bool true) ?dt4h (by kernel_rfl) (by kernel_rfl) (by kernel_rfl) ?dt4q (Or.inl ⟨?dt4w, ?dt4y⟩) (by assumption) ?dt4r
            case dt4h => rw [List.getElem?_toArray]; rfl
            case dt4q => exact fun _ _ _ h => h
            case dt4w => rfl
            case dt4y =>
              intro w hSw
              go_simp
            simp only [Act.put, List.setIfInBounds_toArray, List.set_cons_zero, List.set_cons_succ]
            refine wpAnyH_take (i := 4) (oi := ?dt5o) (v := .int .i64 2) ?dt5h (by kernel_rfl) (by kernel_rfl) (by kernel_rfl) ?dt5q (Or.inl ⟨?dt5w, ?dt5y⟩) (by assumption) ?dt5r
            case dt5h => rw [List.getElem?_toArray]; rfl
            case dt5q => exact fun _ _ _ h => h
            case dt5w => rfl
            case dt5y =>
              intro w hSw
              go_simp
            simp only [Act.put, List.setIfInBounds_toArray, List.set_cons_zero, List.set_cons_succ]
            refine wpAnyH_take (i := 5) (oi := ?dt6o) (v := .bool false) ?dt6h (by kernel_rfl) (by kernel_rfl) (by kernel_rfl) ?dt6q (Or.inl ⟨?dt6w, ?dt6y⟩) (by assumption) ?dt6r
            case dt6h => rw [List.getElem?_toArray]; rfl
            case dt6q => exact fun _ _ _ h => h
            case dt6w => rfl
            case dt6y =>
              intro w hSw
              go_simp
            simp only [Act.put, List.setIfInBounds_toArray, List.set_cons_zero, List.set_cons_succ]
            refine wpAnyH_take (i := 6) (oi := ?dt7o) (v := .bool false) ?dt7h (by kernel_rfl) (by kernel_rfl) (by kernel_rfl) ?dt7q (Or.inl ⟨?dt7w, ?dt7y⟩) (by assumption) ?dt7r
            case dt7h => rw [List.getElem?_toArray]; rfl
            case dt7q => exact fun _ _ _ h => h
            case dt7w => rfl
            case dt7y =>
              intro w hSw
              go_simp
            simp only [Act.put, List.setIfInBounds_toArray, List.set_cons_zero, List.set_cons_succ]
            refine wpAnyH_take (i := 7) (oi := ?dt8o) (v := .int .i64 j) ?dt8h (by kernel_rfl) (by kernel_rfl) (by kernel_rfl) ?dt8q (Or.inl ⟨?dt8w, ?dt8y⟩) (by assumption) ?dt8r
            case dt8h => rw [List.getElem?_toArray]; rfl
            case dt8q => exact fun _ _ _ h => h
            case dt8w => rfl
            case dt8y =>
              intro w hSw
              go_simp
            simp only [Act.put, List.setIfInBounds_toArray, List.set_cons_zero, List.set_cons_succ]
            refine wpAnyH_take (i := 8) (oi := ?dt9o) (v := .bool true) ?dt9h (by kernel_rfl) (by kernel_rfl) (by kernel_rfl) ?dt9q (Or.inl ⟨?dt9w, ?dt9y⟩) (by assumption) ?dt9r
            case dt9h => rw [List.getElem?_toArray]; rfl
            case dt9q => exact fun _ _ _ h => h
            case dt9w => rfl
            case dt9y =>
              intro w hSw
              go_simp
            simp only [Act.put, List.setIfInBounds_toArray, List.set_cons_zero, List.set_cons_succ]
            refine wpAnyH_take (i := 9) (oi := ?dt10o) (v := .bool true) ?dt10h (by kernel_rfl) (by kernel_rfl) (by kernel_rfl) ?dt10q (Or.inl ⟨?dt10w, ?dt10y⟩) (by assumption) ?dt10r
            case dt10h => rw [List.getElem?_toArray]; rfl
            case dt10q => exact fun _ _ _ h => h
            case dt10w => rfl
            case dt10y =>
              intro w hSw
              go_simp
            simp only [Act.put, List.setIfInBounds_toArray, List.set_cons_zero, List.set_cons_succ]
            refine wpAnyH_take (i := 10) (oi := ?dt11o) (v := .bool true) ?dt11h (by kernel_rfl) (by kernel_rfl) (by kernel_rfl) ?dt11q (Or.inl ⟨?dt11w, ?dt11y⟩) (by assumption) ?dt11r
            case dt11h => rw [List.getElem?_toArray]; rfl
            case dt11q => exact fun _ _ _ h => h
            case dt11w => rfl
            case dt11y =>
              intro w hSw
              go_simp
            simp only [Act.put, List.setIfInBounds_toArray, List.set_cons_zero, List.set_cons_succ]
            refine wpAnyH_take (i := 11) (oi := ?dt12o) (v := .bool true) ?dt12h (by kernel_rfl) (by kernel_rfl) (by kernel_rfl) ?dt12q (Or.inl ⟨?dt12w, ?dt12y⟩) (by assumption) ?dt12r
            case dt12h => rw [List.getElem?_toArray]; rfl
            case dt12q => exact fun _ _ _ h => h
            case dt12w => rfl
            case dt12y =>
              intro w hSw
              go_simp
            simp only [Act.put, List.setIfInBounds_toArray, List.set_cons_zero, List.set_cons_succ]
            refine wpAnyH_take (i := 12) (oi := ?dt13o) (v := .agg #[.int .i64 y.k, .int .i64 y.n, .string y.s]) ?dt13h (by kernel_rfl) (by kernel_rfl) (by kernel_rfl) ?dt13q (Or.inl ⟨?dt13w, ?dt13y⟩) (by assumption) ?dt13r
            case dt13h => rw [List.getElem?_toArray]; rfl
            case dt13q => exact fun _ _ _ h => h
            case dt13w => rfl
            case dt13y =>
              intro w hSw
              go_simp
            simp only [Act.put, List.setIfInBounds_toArray, List.set_cons_zero, List.set_cons_succ]
            refine wpAnyH_take (i := 13) (oi := ?dt14o) (v := .int .i64 2) ?dt14h (by kernel_rfl) (by kernel_rfl) (by kernel_rfl) ?dt14q (Or.inl ⟨?dt14w, ?dt14y⟩) (by assumption) ?dt14r
            case dt14h => rw [List.getElem?_toArray]; rfl
            case dt14q => exact fun _ _ _ h => h
            case dt14w => rfl
            case dt14y =>
              intro w hSw
              go_simp
            simp only [Act.put, List.setIfInBounds_toArray, List.set_cons_zero, List.set_cons_succ]
            refine wpAnyH_take (i := 15) (oi := ?dt15o) (v := .agg #[.int .i64 x.k, .int .i64 x.n, .string x.s]) ?dt15h (by kernel_rfl) (by kernel_rfl) (by kernel_rfl) ?dt15q (Or.inl ⟨?dt15w, ?dt15y⟩) (by assumption) ?dt15r
            case dt15h => rw [List.getElem?_toArray]; rfl
            case dt15q => exact fun _ _ _ h => h
            case dt15w => rfl
            case dt15y =>
              intro w hSw
              go_simp
            simp only [Act.put, List.setIfInBounds_toArray, List.set_cons_zero, List.set_cons_succ]
            refine wpAnyH_ready (rs := [14]) (by kernel_rfl) (by simp) ?_
            refine AllReadyH.cons (o := ?db16o) ?db16h (fun K hK => ?db16s) AllReadyH.nil
            case db16h => rw [List.getElem?_toArray]; rfl
            go_simp
            with_reducible refine Calls.mono (hB1 _ hA.lit.1 hA.lit.2) ?_
            rintro e dw17 ⟨rfl, hb1⟩
            go_wp2_with fail
            refine hK.out _ _ ((hA.next hb1).held) (fun hHeld => ?_)
            replace hA := hA.next hb1
            clear hK K hb1
            try simp only [Act.put, List.setIfInBounds_toArray, List.set_cons_zero, List.set_cons_succ]
            refine wpAnyH_take (i := 16) (oi := ?dt18o) (v := .bool false) ?dt18h (by kernel_rfl) (by kernel_rfl) (by kernel_rfl) ?dt18q (Or.inl ⟨?dt18w, ?dt18y⟩) (by assumption) ?dt18r
            case dt18h => rw [List.getElem?_toArray]; rfl
            case dt18q => exact fun _ _ _ h => h
            case dt18w => rfl
            case dt18y =>
              intro w hSw
              go_simp
            simp only [Act.put, List.setIfInBounds_toArray, List.set_cons_zero, List.set_cons_succ]
            refine wpAnyH_take (i := 17) (oi := ?dt19o) (v := .bool false) ?dt19h (by kernel_rfl) (by kernel_rfl) (by kernel_rfl) ?dt19q (Or.inl ⟨?dt19w, ?dt19y⟩) (by assumption) ?dt19r
            case dt19h => rw [List.getElem?_toArray]; rfl
            case dt19q => exact fun _ _ _ h => h
            case dt19w => rfl
            case dt19y =>
              intro w hSw
              go_simp
            simp only [Act.put, List.setIfInBounds_toArray, List.set_cons_zero, List.set_cons_succ]
            refine wpAnyH_done (by kernel_rfl) ?_ _
            clear hHeld
            obtain ⟨⟨y0, y1, y2⟩, _⟩ := hA.by'.cells
            clear hB1 hna
            go_wp2_with (go_at_call 17; first | (with_reducible refine Calls.mono (hC1 _) ?_; rintro e w9 ⟨rfl, rfl⟩) | (with_reducible refine Calls.mono (hC2 _) ?_; rintro e w9 ⟨rfl, rfl⟩))
            go_roundw
            case rel => exact ⟨j + 1, rfl, by omega, by omega, hA.live, hA.bx⟩
            case measure => simp [intOf]; omega
        · have hbk := hback hy0 (fun h => hk2 h.1)
          rw [hbk] at hB1
          have hkb : (k == 2) = false := by simp [hk2]
          have hkc : (k != 2) = true := by simp [hk2]
          unfold Val.v valV at hB1
          clear hback hbk hy0 hk2
          refine wp_region_held_drew (S := (fun w' => w'.cell? ⟨g7, 0, none⟩ = some (.int .i64 y.k) ∧ w'.cell? ⟨g7, 1, none⟩ = some (.int .i64 y.n) ∧ w'.cell? ⟨g7, 2, none⟩ = some (.string y.s) ∧ w'.cell? ⟨g5, 0, none⟩ = some (.int .i64 x.k) ∧ w'.cell? ⟨g5, 1, none⟩ = some (.int .i64 x.n) ∧ w'.cell? ⟨g5, 2, none⟩ = some (.string x.s) ∧ LAt w w' ad zs cap b g5 g7 x y)) (by kernel_rfl) (by exact hA.drew.held) (fun hHeld => ?_)
          replace hA := hA.drew
          generalize World.drew W5 = W6 at hA hHeld ⊢
          refine wpAnyH_take (i := 0) (oi := ?et1o) (v := .pointer (some ⟨g7, 0, none⟩)) ?et1h (by kernel_rfl) (by kernel_rfl) (by kernel_rfl) ?et1q (Or.inl ⟨?et1w, ?et1y⟩) (by assumption) ?et1r
          case et1h => rw [List.getElem?_toArray]; rfl
          case et1q => exact fun _ _ _ h => h
          case et1w => rfl
          case et1y =>
            intro w hSw
            go_simp
          simp only [Act.put, List.setIfInBounds_toArray, List.set_cons_zero, List.set_cons_succ]
          refine wpAnyH_take (i := 1) (oi := ?et2o) (v := .int .i64 y.k) ?et2h (by kernel_rfl) (by kernel_rfl) (by kernel_rfl) ?et2q (Or.inl ⟨?et2w, ?et2y⟩) (by assumption) ?et2r
          case et2h => rw [List.getElem?_toArray]; rfl
          case et2q => exact fun _ _ _ h => h
          case et2w => rfl
          case et2y =>
            intro w hSw
            go_simp
          simp only [Act.put, List.setIfInBounds_toArray, List.set_cons_zero, List.set_cons_succ]
          refine wpAnyH_take (i := 2) (oi := ?et3o) (v := .bool true) ?et3h (by kernel_rfl) (by kernel_rfl) (by kernel_rfl) ?et3q (Or.inl ⟨?et3w, ?et3y⟩) (by assumption) ?et3r
          case et3h => rw [List.getElem?_toArray]; rfl
          case et3q => exact fun _ _ _ h => h
          case et3w => rfl
          case et3y =>
            intro w hSw
            go_simp
          simp only [Act.put, List.setIfInBounds_toArray, List.set_cons_zero, List.set_cons_succ]
          refine wpAnyH_take (i := 3) (oi := ?et4o) (v := .bool true) ?et4h (by kernel_rfl) (by kernel_rfl) (by kernel_rfl) ?et4q (Or.inl ⟨?et4w, ?et4y⟩) (by assumption) ?et4r
          case et4h => rw [List.getElem?_toArray]; rfl
          case et4q => exact fun _ _ _ h => h
          case et4w => rfl
          case et4y =>
            intro w hSw
            go_simp
          simp only [Act.put, List.setIfInBounds_toArray, List.set_cons_zero, List.set_cons_succ]
          refine wpAnyH_take (i := 4) (oi := ?et5o) (v := .int .i64 k) ?et5h (by kernel_rfl) (by kernel_rfl) (by kernel_rfl) ?et5q (Or.inl ⟨?et5w, ?et5y⟩) (by assumption) ?et5r
          case et5h => rw [List.getElem?_toArray]; rfl
          case et5q => exact fun _ _ _ h => h
          case et5w => rfl
          case et5y =>
            intro w hSw
            go_simp
          simp only [Act.put, List.setIfInBounds_toArray, List.set_cons_zero, List.set_cons_succ]
          refine wpAnyH_take (i := 5) (oi := ?et6o) (v := .bool true) ?et6h (by kernel_rfl) (by kernel_rfl) (by kernel_rfl) ?et6q (Or.inl ⟨?et6w, ?et6y⟩) (by assumption) ?et6r
          case et6h => rw [List.getElem?_toArray]; rfl
          case et6q => exact fun _ _ _ h => h
          case et6w => rfl
          case et6y =>
            intro w hSw
            go_simp
          simp only [Act.put, List.setIfInBounds_toArray, List.set_cons_zero, List.set_cons_succ]
          refine wpAnyH_take (i := 6) (oi := ?et7o) (v := .bool true) ?et7h (by kernel_rfl) (by kernel_rfl) (by kernel_rfl) ?et7q (Or.inl ⟨?et7w, ?et7y⟩) (by assumption) ?et7r
          case et7h => rw [List.getElem?_toArray]; rfl
          case et7q => exact fun _ _ _ h => h
          case et7w => rfl
          case et7y =>
            intro w hSw
            go_simp
          simp only [Act.put, List.setIfInBounds_toArray, List.set_cons_zero, List.set_cons_succ]
          refine wpAnyH_take (i := 7) (oi := ?et8o) (v := undef) ?et8h (by kernel_rfl) (by kernel_rfl) (by kernel_rfl) ?et8q (Or.inr ⟨?et8w, rfl⟩) (by assumption) ?et8r
          case et8h => rw [List.getElem?_toArray]; rfl
          case et8q => exact fun _ _ _ h => h
          case et8w => rfl
          simp only [Act.put, List.setIfInBounds_toArray, List.set_cons_zero, List.set_cons_succ]
          refine wpAnyH_take (i := 8) (oi := ?et9o) (v := undef) ?et9h (by kernel_rfl) (by kernel_rfl) (by kernel_rfl) ?et9q (Or.inr ⟨?et9w, rfl⟩) (by assumption) ?et9r
          case et9h => rw [List.getElem?_toArray]; rfl
          case et9q => exact fun _ _ _ h => h
          case et9w => rfl
          simp only [Act.put, List.setIfInBounds_toArray, List.set_cons_zero, List.set_cons_succ]
          refine wpAnyH_take (i := 9) (oi := ?et10o) (v := .bool true) ?et10h (by kernel_rfl) (by kernel_rfl) (by kernel_rfl) ?et10q (Or.inl ⟨?et10w, ?et10y⟩) (by assumption) ?et10r
          case et10h => rw [List.getElem?_toArray]; rfl
          case et10q => exact fun _ _ _ h => h
          case et10w => rfl
          case et10y =>
            intro w hSw
            go_simp
          simp only [Act.put, List.setIfInBounds_toArray, List.set_cons_zero, List.set_cons_succ]
          refine wpAnyH_take (i := 10) (oi := ?et11o) (v := .bool true) ?et11h (by kernel_rfl) (by kernel_rfl) (by kernel_rfl) ?et11q (Or.inl ⟨?et11w, ?et11y⟩) (by assumption) ?et11r
          case et11h => rw [List.getElem?_toArray]; rfl
          case et11q => exact fun _ _ _ h => h
          case et11w => rfl
          case et11y =>
            intro w hSw
            go_simp
          simp only [Act.put, List.setIfInBounds_toArray, List.set_cons_zero, List.set_cons_succ]
          refine wpAnyH_take (i := 11) (oi := ?et12o) (v := .bool true) ?et12h (by kernel_rfl) (by kernel_rfl) (by kernel_rfl) ?et12q (Or.inl ⟨?et12w, ?et12y⟩) (by assumption) ?et12r
          case et12h => rw [List.getElem?_toArray]; rfl
          case et12q => exact fun _ _ _ h => h
          case et12w => rfl
          case et12y =>
            intro w hSw
            go_simp
          simp only [Act.put, List.setIfInBounds_toArray, List.set_cons_zero, List.set_cons_succ]
          refine wpAnyH_take (i := 12) (oi := ?et13o) (v := .agg #[.int .i64 y.k, .int .i64 y.n, .string y.s]) ?et13h (by kernel_rfl) (by kernel_rfl) (by kernel_rfl) ?et13q (Or.inl ⟨?et13w, ?et13y⟩) (by assumption) ?et13r
          case et13h => rw [List.getElem?_toArray]; rfl
          case et13q => exact fun _ _ _ h => h
          case et13w => rfl
          case et13y =>
            intro w hSw
            go_simp
          simp only [Act.put, List.setIfInBounds_toArray, List.set_cons_zero, List.set_cons_succ]
          refine wpAnyH_take (i := 13) (oi := ?et14o) (v := .int .i64 k) ?et14h (by kernel_rfl) (by kernel_rfl) (by kernel_rfl) ?et14q (Or.inl ⟨?et14w, ?et14y⟩) (by assumption) ?et14r
          case et14h => rw [List.getElem?_toArray]; rfl
          case et14q => exact fun _ _ _ h => h
          case et14w => rfl
          case et14y =>
            intro w hSw
            go_simp
          simp only [Act.put, List.setIfInBounds_toArray, List.set_cons_zero, List.set_cons_succ]
          refine wpAnyH_take (i := 15) (oi := ?et15o) (v := .agg #[.int .i64 x.k, .int .i64 x.n, .string x.s]) ?et15h (by kernel_rfl) (by kernel_rfl) (by kernel_rfl) ?et15q (Or.inl ⟨?et15w, ?et15y⟩) (by assumption) ?et15r
          case et15h => rw [List.getElem?_toArray]; rfl
          case et15q => exact fun _ _ _ h => h
          case et15w => rfl
          case et15y =>
            intro w hSw
            go_simp
          simp only [Act.put, List.setIfInBounds_toArray, List.set_cons_zero, List.set_cons_succ]
          refine wpAnyH_ready (rs := [14]) (by kernel_rfl) (by simp) ?_
          refine AllReadyH.cons (o := ?eb16o) ?eb16h (fun K hK => ?eb16s) AllReadyH.nil
          case eb16h => rw [List.getElem?_toArray]; rfl
          go_simp
          with_reducible refine Calls.mono (hB1 _ hA.lit.1 hA.lit.2) ?_
          rintro e ew17 ⟨rfl, hb1⟩
          go_wp2_with fail
          refine hK.out _ _ ((hA.next hb1).held) (fun hHeld => ?_)
          replace hA := hA.next hb1
          clear hK K hb1
          try simp only [Act.put, List.setIfInBounds_toArray, List.set_cons_zero, List.set_cons_succ]
          refine wpAnyH_take (i := 16) (oi := ?et18o) (v := .bool false) ?et18h (by kernel_rfl) (by kernel_rfl) (by kernel_rfl) ?et18q (Or.inl ⟨?et18w, ?et18y⟩) (by assumption) ?et18r
          case et18h => rw [List.getElem?_toArray]; rfl
          case et18q => exact fun _ _ _ h => h
          case et18w => rfl
          case et18y =>
            intro w hSw
            go_simp
          simp only [Act.put, List.setIfInBounds_toArray, List.set_cons_zero, List.set_cons_succ]
          refine wpAnyH_take (i := 17) (oi := ?et19o) (v := .bool false) ?et19h (by kernel_rfl) (by kernel_rfl) (by kernel_rfl) ?et19q (Or.inl ⟨?et19w, ?et19y⟩) (by assumption) ?et19r
          case et19h => rw [List.getElem?_toArray]; rfl
          case et19q => exact fun _ _ _ h => h
          case et19w => rfl
          case et19y =>
            intro w hSw
            go_simp
          simp only [Act.put, List.setIfInBounds_toArray, List.set_cons_zero, List.set_cons_succ]
          refine wpAnyH_done (by kernel_rfl) ?_ _
          clear hHeld
          obtain ⟨⟨y0, y1, y2⟩, _⟩ := hA.by'.cells
          clear hB1 hna
          go_wp2_with (go_at_call 17; first | (with_reducible refine Calls.mono (hC1 _) ?_; rintro e w9 ⟨rfl, rfl⟩) | (with_reducible refine Calls.mono (hC2 _) ?_; rintro e w9 ⟨rfl, rfl⟩))
          go_roundw
          case rel => exact ⟨j + 1, rfl, by omega, by omega, hA.live, hA.bx⟩
          case measure => simp [intOf]; omega

end Go.Proofs
