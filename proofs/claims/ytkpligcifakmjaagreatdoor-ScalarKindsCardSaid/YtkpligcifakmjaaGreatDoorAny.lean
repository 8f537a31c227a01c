/- Of package dumbmake: values of any kind out of a stream. No condition. -/
import Derived.Test.YtkpligcifakmjaaGreatDoorTxt
namespace Go.Proofs
open Go.RowKit Go.Ke

set_option maxRecDepth 20000 in
theorem Tryz.valueL {w : World} {g N : Nat} {ad : Option Addr} {zs : List Int} {cap : Nat} {a : Int} (h : Live w g N ad zs cap a) (ha : a < 80000) (k : Int) (hk : 1 ≤ k ∧ k ≤ 4) :
    Calls Tryz.prog 153 #[.pointer (some ⟨g, 0, none⟩), .int .i64 k] w fun e w' => ∃ (x : Val) (b : Int), x.s.size ≤ 1000 ∧ b ≤ a + 7 ∧ e = .returned x.v ∧ Live w' g N ad zs cap b ∧ Turns g w w' := by
  have hg := h.lt
  have hV0 := h.alloc (.cells #[.int .i64 0, .int .i64 0, .string ⟨#[]⟩] 23)
  have hT0 := Turns.new (g := g) (w := w) (.cells #[.int .i64 0, .int .i64 0, .string ⟨#[]⟩] 23) (by omega)
  have hr0 := heap_alloc_new w (.cells #[.int .i64 0, .int .i64 0, .string ⟨#[]⟩] 23)
  have hne : w.heap.size ≠ g := by omega
  go_enter Tryz.func153, Tryz.ntmps153
  go_wp2_with fail
  generalize w.alloc (.cells #[.int .i64 0, .int .i64 0, .string ⟨#[]⟩] 23) = W0 at hV0 hT0 hr0 ⊢
  refine (Tryz.flipL hV0 (by omega) _ (by omega) (by omega)).mono ?_
  rintro e W1 ⟨fl, rfl, hV1, hT1⟩
  have hr1 := hT1.block hr0 hne
  cases fl with
  | true =>
    have hV3 := ((hV1.set (i := 0) (v := .int .i64 Val.zero.k) hg).set (i := 1) (v := .int .i64 Val.zero.n) hg).set (i := 2) (v := .string Val.zero.s) hg
    have hT3 := (((hT0.trans hT1).set (i := 0) (v := .int .i64 Val.zero.k) (Nat.le_refl _) (Nat.le_of_lt hg)).set (i := 1) (v := .int .i64 Val.zero.n) (Nat.le_refl _) (Nat.le_of_lt hg)).set (i := 2) (v := .string Val.zero.s) (Nat.le_refl _) (Nat.le_of_lt hg)
    obtain ⟨⟨z0, z1, z2⟩, y0, y1, y2⟩ := free_zero hr1
    go_wp2_with fail
    exact bodyPost_ret (v := Val.zero.v) (res_box Tryz.results153 rfl (set3_block Val.zero hr1)) rfl (by first | exact ⟨Val.zero, Nat.zero_le _, _, by omega, rfl, hV3, hT3⟩ | exact ⟨Val.zero, _, Nat.zero_le _, by omega, rfl, hV3, hT3⟩)
  | false =>
    go_wp2_with fail
    refine (Tryz.full hV1 (by omega) k hk).mono ?_
    rintro e W2 ⟨x, b, hkk, hf, hb, rfl, hV2, hT2⟩
    clear hkk
    have hr2 := hT2.block hr1 hne
    have hV3 := ((hV2.set (i := 0) (v := .int .i64 x.k) hg).set (i := 1) (v := .int .i64 x.n) hg).set (i := 2) (v := .string x.s) hg
    have hT3 := ((((hT0.trans hT1).trans hT2).set (i := 0) (v := .int .i64 x.k) (Nat.le_refl _) (Nat.le_of_lt hg)).set (i := 1) (v := .int .i64 x.n) (Nat.le_refl _) (Nat.le_of_lt hg)).set (i := 2) (v := .string x.s) (Nat.le_refl _) (Nat.le_of_lt hg)
    obtain ⟨⟨z0, z1, z2⟩, y0, y1, y2⟩ := free_zero hr2
    simp only [Val.v, valV]
    go_wp2_with fail
    exact bodyPost_ret (v := x.v) (res_box Tryz.results153 rfl (set3_block x hr2)) rfl (by first | exact ⟨x, hf, b, by omega, rfl, hV3, hT3⟩ | exact ⟨x, b, hf, by omega, rfl, hV3, hT3⟩)

/-- The result's block, still empty, and a value's block behind it. -/
structure AnyAt (g : Nat) (w W : World) (q : Nat) (x : Val) : Prop where
  res : W.heap[w.heap.size]? = some (.cells #[.int .i64 0, .int .i64 0, .string ⟨#[]⟩] 23)
  val : W.heap[q]? = some (.cells #[.int .i64 x.k, .int .i64 x.n, .string x.s] 23)
  lt : w.heap.size < q
  turns : Turns g w W

theorem AnyAt.turn {g q : Nat} {w W W' : World} {x : Val} (h : AnyAt g w W q x) (hg : g < w.heap.size) (ht : Turns g W W') : AnyAt g w W' q x :=
  ⟨ht.block h.res (by omega), ht.block h.val (by have := h.lt; omega), h.lt, h.turns.trans ht⟩

theorem AnyAt.cells {g q : Nat} {w W : World} {x : Val} (h : AnyAt g w W q x) :
    (W.cell? ⟨q, 0, none⟩ = some (.int .i64 x.k) ∧ W.cell? ⟨q, 1, none⟩ = some (.int .i64 x.n) ∧ W.cell? ⟨q, 2, none⟩ = some (.string x.s)) ∧
    (W.frozen? ⟨q, 0, none⟩ = false ∧ W.frozen? ⟨q, 1, none⟩ = false ∧ W.frozen? ⟨q, 2, none⟩ = false) := by
  refine ⟨⟨?_, ?_, ?_⟩, ?_, ?_, ?_⟩ <;> simp [World.cell?, World.frozen?, h.val]

theorem AnyAt.setK {g q : Nat} {w W : World} {x : Val} (n : Int) (h : AnyAt g w W q x) (hg : g < w.heap.size) : AnyAt g w (W.setCell ⟨q, 0, none⟩ (.int .i64 n)) q ⟨n, x.n, x.s⟩ :=
  ⟨(block_set_ne (by have := h.lt; omega)).trans h.res, block_set h.val, h.lt, h.turns.set (by have := h.lt; omega) (by have := h.lt; omega)⟩

theorem AnyAt.setN {g q : Nat} {w W : World} {x : Val} (n : Int) (h : AnyAt g w W q x) (hg : g < w.heap.size) : AnyAt g w (W.setCell ⟨q, 1, none⟩ (.int .i64 n)) q ⟨x.k, n, x.s⟩ :=
  ⟨(block_set_ne (by have := h.lt; omega)).trans h.res, block_set h.val, h.lt, h.turns.set (by have := h.lt; omega) (by have := h.lt; omega)⟩

theorem AnyAt.setS {g q : Nat} {w W : World} {x : Val} (s : ByteArray) (h : AnyAt g w W q x) (hg : g < w.heap.size) : AnyAt g w (W.setCell ⟨q, 2, none⟩ (.string s)) q ⟨x.k, x.n, s⟩ :=
  ⟨(block_set_ne (by have := h.lt; omega)).trans h.res, block_set h.val, h.lt, h.turns.set (by have := h.lt; omega) (by have := h.lt; omega)⟩

set_option maxRecDepth 20000 in
set_option maxHeartbeats 4000000 in
theorem Tryz.anyL {w : World} {g N : Nat} {ad : Option Addr} {zs : List Int} {cap : Nat} {a : Int} (h : Live w g N ad zs cap a) (ha : a < 70000) :
    Calls Tryz.prog 117 #[.pointer (some ⟨g, 0, none⟩)] w fun e w' => ∃ (x : Val) (b : Int), x.s.size ≤ 3000 ∧ b ≤ a + 30 ∧ e = .returned x.v ∧ Live w' g N ad zs cap b ∧ Turns g w w' := by
  have hg := h.lt
  have hV0 := h.alloc (.cells #[.int .i64 0, .int .i64 0, .string ⟨#[]⟩] 23)
  have hT0 := Turns.new (g := g) (w := w) (.cells #[.int .i64 0, .int .i64 0, .string ⟨#[]⟩] 23) (by omega)
  have hr0 := heap_alloc_new w (.cells #[.int .i64 0, .int .i64 0, .string ⟨#[]⟩] 23)
  have hne : w.heap.size ≠ g := by omega
  go_enter Tryz.func117, Tryz.ntmps117
  go_wp2_with fail
  generalize w.alloc (.cells #[.int .i64 0, .int .i64 0, .string ⟨#[]⟩] 23) = W0 at hV0 hT0 hr0 ⊢
  refine (Tryz.rangeL hV0 (by omega) 1 4 (by omega) (by omega) (by omega)).mono ?_
  rintro e W1 ⟨k, hk1, hk2, rfl, hV1, hT1⟩
  go_wp2_with fail
  refine (Tryz.valueL hV1 (by omega) k ⟨hk1, hk2⟩).mono ?_
  rintro e W2 ⟨x, b2, hx, hb2, rfl, hV2, hT2⟩
  have hs2 : w.heap.size < W2.heap.size := by have := blk_lt hr0; have := hT1.size; have := hT2.size; omega
  have hA : AnyAt g w (W2.alloc (.cells #[.int .i64 x.k, .int .i64 x.n, .string x.s] 23)) W2.heap.size x :=
    ⟨(heap_alloc_old _ _ hs2).trans (hT2.block (hT1.block hr0 hne) hne), heap_alloc_new _ _, hs2, ((hT0.trans hT1).trans hT2).trans (Turns.new _ (by omega))⟩
  have hVA := hV2.alloc (.cells #[.int .i64 x.k, .int .i64 x.n, .string x.s] 23)
  simp only [Val.v, valV]
  go_wp2_with fail
  generalize W2.alloc (.cells #[.int .i64 x.k, .int .i64 x.n, .string x.s] 23) = W3 at hA hVA ⊢
  generalize W2.heap.size = q at hA ⊢
  clear hV2 hT2 hV1 hT1 hV0 hT0 hr0 hs2
  refine (Tryz.flipL hVA (by omega) _ (by omega) (by omega)).mono ?_
  rintro e W4 ⟨fl, rfl, hV4, hT4⟩
  have hA4 := hA.turn hg hT4
  clear hA hVA hT4
  have hq := hA4.lt
  cases fl with
  | false =>
    obtain ⟨⟨c0, c1, c2⟩, f0, f1, f2⟩ := hA4.cells
    obtain ⟨⟨z0, z1, z2⟩, y0, y1, y2⟩ := free_zero hA4.res
    have hV9 := ((hV4.set (i := 0) (v := .int .i64 (x : Val).k) hg).set (i := 1) (v := .int .i64 (x : Val).n) hg).set (i := 2) (v := .string (x : Val).s) hg
    have hT9 := ((hA4.turns.set (i := 0) (v := .int .i64 (x : Val).k) (Nat.le_refl _) (Nat.le_of_lt hg)).set (i := 1) (v := .int .i64 (x : Val).n) (Nat.le_refl _) (Nat.le_of_lt hg)).set (i := 2) (v := .string (x : Val).s) (Nat.le_refl _) (Nat.le_of_lt hg)
    go_wp2_with fail
    exact bodyPost_ret (res_box Tryz.results117 rfl (set3_block x hA4.res)) rfl (by first | exact ⟨x, _, by omega, by omega, rfl, hV9, hT9⟩ | exact ⟨x, by omega, _, by omega, rfl, hV9, hT9⟩)
  | true =>
    go_wp2_with fail
    refine (Tryz.nextL hV4 (by omega) _ (by omega) (by omega)).mono ?_
    rintro e W5 ⟨r, hr1, hr2, rfl, hV5, hT5⟩
    have hA5 := hA4.turn hg hT5
    clear hA4 hV4 hT5
    obtain rfl | rfl | rfl | rfl | rfl : r = 0 ∨ r = 1 ∨ r = 2 ∨ r = 3 ∨ r = 4 := by omega
    · have hVp := hV5.alloc (.cells #[.int .i64 (-1), .int .i64 5, .int .i64 0, .int .i64 1, .int .i64 2, .int .i64 3, .int .i64 4] 3)
      have hAp := hA5.turn hg (Turns.new (.cells #[.int .i64 (-1), .int .i64 5, .int .i64 0, .int .i64 1, .int .i64 2, .int .i64 3, .int .i64 4] 3) (Nat.le_of_lt hV5.lt))
      have hbp := heap_alloc_new W5 (.cells #[.int .i64 (-1), .int .i64 5, .int .i64 0, .int .i64 1, .int .i64 2, .int .i64 3, .int .i64 4] 3)
      have hnp : W5.heap.size ≠ g := by have := hV5.lt; omega
      go_wp2_with fail
      generalize W5.alloc (.cells #[.int .i64 (-1), .int .i64 5, .int .i64 0, .int .i64 1, .int .i64 2, .int .i64 3, .int .i64 4] 3) = W6 at hVp hAp hbp ⊢
      refine (Tryz.pickL hVp (by omega) _ _ [-1, 5, 0, 1, 2, 3, 4] rfl hnp hbp (by simp) (by simp)).mono ?_
      rintro e W7 ⟨p, hp, rfl, hV7, hT7⟩
      have hA7 := hAp.turn hg hT7
      obtain ⟨⟨c0, c1, c2⟩, f0, f1, f2⟩ := hA7.cells
      go_upto_region 14 with fail
      have hA8 := hA7.setK p hg
      have hV8 := hV7.set (k := q) (i := 0) (v := (.int .i64 p)) (by omega)
      clear c0 c1 c2 f0 f1 f2
      generalize World.setCell _ ⟨q, 0, none⟩ (.int .i64 p) = W8 at hA8 hV8 ⊢
      obtain ⟨⟨c0, c1, c2⟩, f0, f1, f2⟩ := hA8.cells
      obtain ⟨⟨z0, z1, z2⟩, y0, y1, y2⟩ := free_zero hA8.res
      have hV9 := ((hV8.set (i := 0) (v := .int .i64 (⟨p, x.n, x.s⟩ : Val).k) hg).set (i := 1) (v := .int .i64 (⟨p, x.n, x.s⟩ : Val).n) hg).set (i := 2) (v := .string (⟨p, x.n, x.s⟩ : Val).s) hg
      have hT9 := ((hA8.turns.set (i := 0) (v := .int .i64 (⟨p, x.n, x.s⟩ : Val).k) (Nat.le_refl _) (Nat.le_of_lt hg)).set (i := 1) (v := .int .i64 (⟨p, x.n, x.s⟩ : Val).n) (Nat.le_refl _) (Nat.le_of_lt hg)).set (i := 2) (v := .string (⟨p, x.n, x.s⟩ : Val).s) (Nat.le_refl _) (Nat.le_of_lt hg)
      go_wp2_with fail
      exact bodyPost_ret (res_box Tryz.results117 rfl (set3_block ⟨p, x.n, x.s⟩ hA8.res)) rfl (by first | exact ⟨⟨p, x.n, x.s⟩, _, Nat.le_trans hx (by decide), by omega, rfl, hV9, hT9⟩ | exact ⟨⟨p, x.n, x.s⟩, Nat.le_trans hx (by decide), _, by omega, rfl, hV9, hT9⟩)
    · go_wp2_with fail
      refine (Tryz.intL hV5 (by omega)).mono ?_
      rintro e W7 ⟨p, hp1, hp2, rfl, hV7, hT7⟩
      have hA7 := hA5.turn hg hT7
      obtain ⟨⟨c0, c1, c2⟩, f0, f1, f2⟩ := hA7.cells
      go_upto_region 14 with fail
      have hA8 := hA7.setN p hg
      have hV8 := hV7.set (k := q) (i := 1) (v := (.int .i64 p)) (by omega)
      clear c0 c1 c2 f0 f1 f2
      generalize World.setCell _ ⟨q, 1, none⟩ (.int .i64 p) = W8 at hA8 hV8 ⊢
      obtain ⟨⟨c0, c1, c2⟩, f0, f1, f2⟩ := hA8.cells
      obtain ⟨⟨z0, z1, z2⟩, y0, y1, y2⟩ := free_zero hA8.res
      have hV9 := ((hV8.set (i := 0) (v := .int .i64 (⟨x.k, p, x.s⟩ : Val).k) hg).set (i := 1) (v := .int .i64 (⟨x.k, p, x.s⟩ : Val).n) hg).set (i := 2) (v := .string (⟨x.k, p, x.s⟩ : Val).s) hg
      have hT9 := ((hA8.turns.set (i := 0) (v := .int .i64 (⟨x.k, p, x.s⟩ : Val).k) (Nat.le_refl _) (Nat.le_of_lt hg)).set (i := 1) (v := .int .i64 (⟨x.k, p, x.s⟩ : Val).n) (Nat.le_refl _) (Nat.le_of_lt hg)).set (i := 2) (v := .string (⟨x.k, p, x.s⟩ : Val).s) (Nat.le_refl _) (Nat.le_of_lt hg)
      go_wp2_with fail
      exact bodyPost_ret (res_box Tryz.results117 rfl (set3_block ⟨x.k, p, x.s⟩ hA8.res)) rfl (by first | exact ⟨⟨x.k, p, x.s⟩, _, Nat.le_trans hx (by decide), by omega, rfl, hV9, hT9⟩ | exact ⟨⟨x.k, p, x.s⟩, Nat.le_trans hx (by decide), _, by omega, rfl, hV9, hT9⟩)
    · go_wp2_with fail
      refine (Tryz.textL hV5 (by omega)).mono ?_
      rintro e W7 ⟨p, b7, hp, hb7, rfl, hV7, hT7⟩
      have hA7 := hA5.turn hg hT7
      obtain ⟨⟨c0, c1, c2⟩, f0, f1, f2⟩ := hA7.cells
      go_upto_region 14 with fail
      have hA8 := hA7.setS p hg
      have hV8 := hV7.set (k := q) (i := 2) (v := (.string p)) (by omega)
      clear c0 c1 c2 f0 f1 f2
      generalize World.setCell _ ⟨q, 2, none⟩ (.string p) = W8 at hA8 hV8 ⊢
      obtain ⟨⟨c0, c1, c2⟩, f0, f1, f2⟩ := hA8.cells
      obtain ⟨⟨z0, z1, z2⟩, y0, y1, y2⟩ := free_zero hA8.res
      have hV9 := ((hV8.set (i := 0) (v := .int .i64 (⟨x.k, x.n, p⟩ : Val).k) hg).set (i := 1) (v := .int .i64 (⟨x.k, x.n, p⟩ : Val).n) hg).set (i := 2) (v := .string (⟨x.k, x.n, p⟩ : Val).s) hg
      have hT9 := ((hA8.turns.set (i := 0) (v := .int .i64 (⟨x.k, x.n, p⟩ : Val).k) (Nat.le_refl _) (Nat.le_of_lt hg)).set (i := 1) (v := .int .i64 (⟨x.k, x.n, p⟩ : Val).n) (Nat.le_refl _) (Nat.le_of_lt hg)).set (i := 2) (v := .string (⟨x.k, x.n, p⟩ : Val).s) (Nat.le_refl _) (Nat.le_of_lt hg)
      go_wp2_with fail
      exact bodyPost_ret (res_box Tryz.results117 rfl (set3_block ⟨x.k, x.n, p⟩ hA8.res)) rfl (by first | exact ⟨⟨x.k, x.n, p⟩, _, Nat.le_trans hp (by decide), by omega, rfl, hV9, hT9⟩ | exact ⟨⟨x.k, x.n, p⟩, Nat.le_trans hp (by decide), _, by omega, rfl, hV9, hT9⟩)
    · have hsz : x.s.size ≤ 1000 := hx
      obtain ⟨⟨c0, c1, c2⟩, f0, f1, f2⟩ := hA5.cells
      go_upto_region 14 with fail
      have hA8 := hA5.setS (x.s ++ ⟨#[10]⟩) hg
      have hV8 := hV5.set (k := q) (i := 2) (v := (.string (x.s ++ ⟨#[10]⟩))) (by omega)
      clear c0 c1 c2 f0 f1 f2
      generalize World.setCell _ ⟨q, 2, none⟩ (.string (x.s ++ ⟨#[10]⟩)) = W8 at hA8 hV8 ⊢
      obtain ⟨⟨c0, c1, c2⟩, f0, f1, f2⟩ := hA8.cells
      obtain ⟨⟨z0, z1, z2⟩, y0, y1, y2⟩ := free_zero hA8.res
      have hV9 := ((hV8.set (i := 0) (v := .int .i64 (⟨x.k, x.n, x.s ++ ⟨#[10]⟩⟩ : Val).k) hg).set (i := 1) (v := .int .i64 (⟨x.k, x.n, x.s ++ ⟨#[10]⟩⟩ : Val).n) hg).set (i := 2) (v := .string (⟨x.k, x.n, x.s ++ ⟨#[10]⟩⟩ : Val).s) hg
      have hT9 := ((hA8.turns.set (i := 0) (v := .int .i64 (⟨x.k, x.n, x.s ++ ⟨#[10]⟩⟩ : Val).k) (Nat.le_refl _) (Nat.le_of_lt hg)).set (i := 1) (v := .int .i64 (⟨x.k, x.n, x.s ++ ⟨#[10]⟩⟩ : Val).n) (Nat.le_refl _) (Nat.le_of_lt hg)).set (i := 2) (v := .string (⟨x.k, x.n, x.s ++ ⟨#[10]⟩⟩ : Val).s) (Nat.le_refl _) (Nat.le_of_lt hg)
      go_wp2_with fail
      exact bodyPost_ret (res_box Tryz.results117 rfl (set3_block ⟨x.k, x.n, x.s ++ ⟨#[10]⟩⟩ hA8.res)) rfl (by first | exact ⟨⟨x.k, x.n, x.s ++ ⟨#[10]⟩⟩, _, (by show (x.s ++ ⟨#[10]⟩).size ≤ 3000; rw [ByteArray.size_append]; have : (⟨#[10]⟩ : ByteArray).size = 1 := rfl; omega), by omega, rfl, hV9, hT9⟩ | exact ⟨⟨x.k, x.n, x.s ++ ⟨#[10]⟩⟩, (by show (x.s ++ ⟨#[10]⟩).size ≤ 3000; rw [ByteArray.size_append]; have : (⟨#[10]⟩ : ByteArray).size = 1 := rfl; omega), _, by omega, rfl, hV9, hT9⟩)
    · have hVp := hV5.alloc (.cells #[.int .i64 100, .int .i64 101] 3)
      have hAp := hA5.turn hg (Turns.new (.cells #[.int .i64 100, .int .i64 101] 3) (Nat.le_of_lt hV5.lt))
      have hbp := heap_alloc_new W5 (.cells #[.int .i64 100, .int .i64 101] 3)
      have hnp : W5.heap.size ≠ g := by have := hV5.lt; omega
      go_wp2_with fail
      generalize W5.alloc (.cells #[.int .i64 100, .int .i64 101] 3) = W6 at hVp hAp hbp ⊢
      refine (Tryz.pickL hVp (by omega) _ _ [100, 101] rfl hnp hbp (by simp) (by simp)).mono ?_
      rintro e W7 ⟨p, hp, rfl, hV7, hT7⟩
      have hA7 := hAp.turn hg hT7
      have hp2 : 0 ≤ p ∧ p ≤ 101 := by simp only [List.mem_cons, List.mem_nil_iff, or_false] at hp; omega
      go_wp2_with fail
      refine (Tryz.repeatF ⟨#[122]⟩ p hp2.1 (by omega) (by decide) _).mono ?_
      rintro e W8 ⟨rfl, hb8⟩
      have hVr := hV7.call hb8
      have hAr := hA7.turn hg (Turns.of hb8 (Nat.le_of_lt hV7.lt))
      obtain ⟨⟨c0, c1, c2⟩, f0, f1, f2⟩ := hAr.cells
      go_upto_region 14 with fail
      have hA8 := hAr.setS ⟨(Lib.repeatL (⟨#[122]⟩ : ByteArray).data.toList p.toNat).toArray⟩ hg
      have hV8 := hVr.set (k := q) (i := 2) (v := (.string ⟨(Lib.repeatL (⟨#[122]⟩ : ByteArray).data.toList p.toNat).toArray⟩)) (by omega)
      clear c0 c1 c2 f0 f1 f2
      generalize World.setCell _ ⟨q, 2, none⟩ (.string ⟨(Lib.repeatL (⟨#[122]⟩ : ByteArray).data.toList p.toNat).toArray⟩) = W9 at hA8 hV8 ⊢
      obtain ⟨⟨c0, c1, c2⟩, f0, f1, f2⟩ := hA8.cells
      obtain ⟨⟨z0, z1, z2⟩, y0, y1, y2⟩ := free_zero hA8.res
      have hV9 := ((hV8.set (i := 0) (v := .int .i64 (⟨x.k, x.n, ⟨(Lib.repeatL (⟨#[122]⟩ : ByteArray).data.toList p.toNat).toArray⟩⟩ : Val).k) hg).set (i := 1) (v := .int .i64 (⟨x.k, x.n, ⟨(Lib.repeatL (⟨#[122]⟩ : ByteArray).data.toList p.toNat).toArray⟩⟩ : Val).n) hg).set (i := 2) (v := .string (⟨x.k, x.n, ⟨(Lib.repeatL (⟨#[122]⟩ : ByteArray).data.toList p.toNat).toArray⟩⟩ : Val).s) hg
      have hT9 := ((hA8.turns.set (i := 0) (v := .int .i64 (⟨x.k, x.n, ⟨(Lib.repeatL (⟨#[122]⟩ : ByteArray).data.toList p.toNat).toArray⟩⟩ : Val).k) (Nat.le_refl _) (Nat.le_of_lt hg)).set (i := 1) (v := .int .i64 (⟨x.k, x.n, ⟨(Lib.repeatL (⟨#[122]⟩ : ByteArray).data.toList p.toNat).toArray⟩⟩ : Val).n) (Nat.le_refl _) (Nat.le_of_lt hg)).set (i := 2) (v := .string (⟨x.k, x.n, ⟨(Lib.repeatL (⟨#[122]⟩ : ByteArray).data.toList p.toNat).toArray⟩⟩ : Val).s) (Nat.le_refl _) (Nat.le_of_lt hg)
      go_wp2_with fail
      exact bodyPost_ret (res_box Tryz.results117 rfl (set3_block ⟨x.k, x.n, ⟨(Lib.repeatL (⟨#[122]⟩ : ByteArray).data.toList p.toNat).toArray⟩⟩ hA8.res)) rfl (by first | exact ⟨⟨x.k, x.n, ⟨(Lib.repeatL (⟨#[122]⟩ : ByteArray).data.toList p.toNat).toArray⟩⟩, _, Nat.le_trans (rep_size _ _ rfl hp2.2) (by decide), by omega, rfl, hV9, hT9⟩ | exact ⟨⟨x.k, x.n, ⟨(Lib.repeatL (⟨#[122]⟩ : ByteArray).data.toList p.toNat).toArray⟩⟩, Nat.le_trans (rep_size _ _ rfl hp2.2) (by decide), _, by omega, rfl, hV9, hT9⟩)
end Go.Proofs
