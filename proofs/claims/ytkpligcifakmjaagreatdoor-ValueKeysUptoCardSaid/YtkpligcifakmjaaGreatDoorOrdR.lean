/- Of the document's package: two values compared, and that it says the same as package value. No condition. -/
import Derived.Test.YtkpligcifakmjaaGreatDoorOrd
import Derived.Deep.CutRange
import Derived.Deep.RegionWith
namespace Go.Proofs
open Go.RowKit

def TwoIn (w W : World) (a b : Val) : Prop :=
  W.heap[w.heap.size]? = some (.cells #[.int .i64 a.k, .int .i64 a.n, .string a.s] 23) ∧ W.heap[w.heap.size + 1]? = some (.cells #[.int .i64 b.k, .int .i64 b.n, .string b.s] 23) ∧ Below w.heap.size w W ∧ w.heap.size + 1 < W.heap.size

theorem TwoIn.next {w W W' : World} {a b : Val} (h : TwoIn w W a b) (hb : Below W.heap.size W W') : TwoIn w W' a b := by
  obtain ⟨h1, h2, h3, h4⟩ := h
  have := hb.size
  exact ⟨(hb.block _ (by omega)).trans h1, (hb.block _ h4).trans h2, h3.trans (hb.mono (by omega)), by omega⟩

theorem TwoIn.cells {w W : World} {a b : Val} (h : TwoIn w W a b) :
    (W.cell? ⟨w.heap.size, 0, none⟩ = some (.int .i64 a.k) ∧ W.cell? ⟨w.heap.size, 1, none⟩ = some (.int .i64 a.n) ∧ W.cell? ⟨w.heap.size, 2, none⟩ = some (.string a.s)) ∧
    (W.cell? ⟨w.heap.size + 1, 0, none⟩ = some (.int .i64 b.k) ∧ W.cell? ⟨w.heap.size + 1, 1, none⟩ = some (.int .i64 b.n) ∧ W.cell? ⟨w.heap.size + 1, 2, none⟩ = some (.string b.s)) ∧
    (W.frozen? ⟨w.heap.size, 0, none⟩ = false ∧ W.frozen? ⟨w.heap.size, 1, none⟩ = false ∧ W.frozen? ⟨w.heap.size, 2, none⟩ = false) ∧
    (W.frozen? ⟨w.heap.size + 1, 0, none⟩ = false ∧ W.frozen? ⟨w.heap.size + 1, 1, none⟩ = false ∧ W.frozen? ⟨w.heap.size + 1, 2, none⟩ = false) := by
  obtain ⟨h1, h2, h3, h4⟩ := h
  refine ⟨⟨?_, ?_, ?_⟩, ⟨?_, ?_, ?_⟩, ⟨?_, ?_, ?_⟩, ⟨?_, ?_, ?_⟩⟩ <;> simp [World.cell?, World.frozen?, h1, h2]

theorem TwoIn.drew {w W : World} {a b : Val} (h : TwoIn w W a b) : TwoIn w W.drew a b := ⟨h.1, h.2.1, h.2.2.1.drew, h.2.2.2⟩

theorem TwoIn.start (w : World) (a b : Val) : TwoIn w ((w.alloc (.cells #[.int .i64 a.k, .int .i64 a.n, .string a.s] 23)).alloc (.cells #[.int .i64 b.k, .int .i64 b.n, .string b.s] 23)) a b := by
  obtain ⟨h1, h2, h3, h4⟩ := two_kept (Below.refl _ ((w.alloc (.cells #[.int .i64 a.k, .int .i64 a.n, .string a.s] 23)).alloc (.cells #[.int .i64 b.k, .int .i64 b.n, .string b.s] 23)))
  exact ⟨h1, h2, h4, h3⟩

theorem block_set {W : World} {g i : Nat} {v : Value} {cs : Array Value} {t : TypeId} {fr : Nat × Nat} (h : W.heap[g]? = some (.cells cs t fr)) : (W.setCell ⟨g, i, none⟩ v).heap[g]? = some (.cells (cs.setIfInBounds i v) t fr) := by
  simp [World.setCell, Array.getElem?_modify, h]

theorem block_set_ne {W : World} {g g' i : Nat} {v : Value} (h : g ≠ g') : (W.setCell ⟨g, i, none⟩ v).heap[g']? = W.heap[g']? := by
  simp [World.setCell, Array.getElem?_modify, h]

theorem size_set {W : World} {a : Addr} {v : Value} : (W.setCell a v).heap.size = W.heap.size := by
  simp [World.setCell]

theorem TwoIn.stored {w W : World} {a b : Val} (x y : Val) (h : TwoIn w W a b) :
    TwoIn w ((((((W.setCell ⟨w.heap.size, 0, none⟩ (.int .i64 x.k)).setCell ⟨w.heap.size, 1, none⟩ (.int .i64 x.n)).setCell ⟨w.heap.size, 2, none⟩ (.string x.s)).setCell ⟨w.heap.size + 1, 0, none⟩ (.int .i64 y.k)).setCell ⟨w.heap.size + 1, 1, none⟩ (.int .i64 y.n)).setCell ⟨w.heap.size + 1, 2, none⟩ (.string y.s)) x y := by
  obtain ⟨h1, h2, h3, h4⟩ := h
  refine ⟨?_, ?_, ?_, by simp only [size_set]; exact h4⟩
  · rw [block_set_ne (by omega), block_set_ne (by omega), block_set_ne (by omega), block_set (block_set (block_set h1))]
    rfl
  · rw [block_set (block_set (block_set (g := w.heap.size + 1) (cs := #[.int .i64 b.k, .int .i64 b.n, .string b.s]) (t := 23) (fr := (0, 0)) ?_))]
    · rfl
    · rw [block_set_ne (by omega), block_set_ne (by omega), block_set_ne (by omega), h2]
  · refine Below.setCell (Below.setCell (Below.setCell (Below.setCell (Below.setCell (Below.setCell h3 ?_ _) ?_ _) ?_ _) ?_ _) ?_ _) ?_ _ <;> first | exact Nat.le_refl _ | exact Nat.le_succ _

def comparedN (a b : Val) : Int := if max (-1) (min (a.k - b.k) 1) ≠ 0 then max (-1) (min (a.k - b.k) 1) else if a.k = 3 then cmpS a.s b.s else max (-1) (min (a.n - b.n) 1)

theorem plain_bounds (x : Val) : (0 ≤ x.plain.k ∧ x.plain.k ≤ 4) ∧ (-999999999999999 ≤ x.plain.n ∧ x.plain.n ≤ 999999999999999) ∧ (x.plain.k = 3 → x.plain.n = 0) ∧ (x.plain.k ≠ 3 → x.plain.s.toList.isEmpty = true) ∧ x.plain.s.size ≤ 100 := by
  unfold Val.plain
  cases h : x.fine with
  | false => simp [Val.zero]; decide
  | true =>
    obtain ⟨k, n, s⟩ := x
    simp only [if_true]
    unfold Val.fine formB rangeB inB at h
    simp only [Bool.and_eq_true, decide_eq_true_eq] at h
    obtain ⟨⟨h1, h2⟩, h3⟩ := h
    have h2 : s.size ≤ 100 := by omega
    by_cases h0 : k = 0
    · subst h0; simp_all
    by_cases h3 : k = 3
    · subst h3; simp_all
    by_cases h4 : k = 1
    · subst h4; simp_all; omega
    by_cases h5 : k = 2
    · subst h5; simp_all
    by_cases h6 : k = 4
    · subst h6; simp_all; omega
    · simp_all; omega

theorem compared_order (x y : Val) : comparedN x.plain y.plain = orderN x.plain y.plain := by
  obtain ⟨⟨a1, a2⟩, ⟨a3, a4⟩, a5, a6, _⟩ := plain_bounds x
  obtain ⟨⟨b1, b2⟩, ⟨b3, b4⟩, b5, b6, _⟩ := plain_bounds y
  generalize x.plain = a at *
  generalize y.plain = b at *
  have hs : a.k ≠ 3 → a.k = b.k → cmpS a.s b.s = 0 := fun h3 hk => by
    have e1 := List.isEmpty_iff.mp (a6 h3)
    have e2 := List.isEmpty_iff.mp (b6 (by omega))
    rw [cmpS_less, e1, e2]
    rfl
  unfold comparedN orderN orN cmpI
  by_cases hk : a.k = b.k
  · by_cases h3 : a.k = 3
    · have e1 := a5 h3
      have e2 := b5 (by omega)
      have e3 : max (-1) (min (a.k - b.k) 1) = 0 := by omega
      rw [e3, e1, e2, if_pos h3, hk]
      simp
    · have := hs h3 hk
      simp_all
      grind
  · grind

set_option maxRecDepth 20000 in
set_option maxHeartbeats 1000000 in
theorem Tryz.compared (a b : Val) (ha : a.s.size ≤ 9223372036854775807) (hb : b.s.size ≤ 9223372036854775807) (w : World) : Calls Tryz.prog 24 #[a.v, b.v] w fun e w' => e = .returned (.int .i64 (orderN a.plain b.plain)) ∧ Below w.heap.size w w' := by
  rw [← compared_order]
  obtain ⟨⟨a1, a2⟩, ⟨a3, a4⟩, _, _, _⟩ := plain_bounds a
  obtain ⟨⟨b1, b2⟩, ⟨b3, b4⟩, _, _, _⟩ := plain_bounds b
  unfold Val.v valV
  go_enter Tryz.func24, Tryz.ntmps24
  go_upto_region 1 with fail
  have hT := TwoIn.start w a b
  generalize (w.alloc (.cells #[.int .i64 a.k, .int .i64 a.n, .string a.s] 23)).alloc (.cells #[.int .i64 b.k, .int .i64 b.n, .string b.s] 23) = W at hT ⊢
  go_cut [] from 6 to 9 (fun wx => TwoIn w wx a.plain b.plain)
  case first =>
    have hT := hT.drew
    obtain ⟨⟨c0, c1, c2⟩, ⟨d0, d1, d2⟩, ⟨f0, f1, f2⟩, g0, g1, g2⟩ := hT.cells
    go_region_with (first
      | (go_at_call_of 56 (Value.agg #[.int .i64 a.k, .int .i64 a.n, .string a.s]); refine (Tryz.plainR a.k a.n a.s ha _).mono ?_; rintro e w2 ⟨rfl, hb2⟩; simp only [Val.v, valV]; have hT2 := TwoIn.next (a := a) (b := b) (by assumption) hb2; obtain ⟨⟨c0, c1, c2⟩, ⟨d0, d1, d2⟩, ⟨f0, f1, f2⟩, g0, g1, g2⟩ := hT2.cells)
      | (go_at_call_of 56 (Value.agg #[.int .i64 b.k, .int .i64 b.n, .string b.s]); refine (Tryz.plainR b.k b.n b.s hb _).mono ?_; rintro e w2 ⟨rfl, hb2⟩; simp only [Val.v, valV]; have hT2 := TwoIn.next (a := a) (b := b) (by assumption) hb2; obtain ⟨⟨c0, c1, c2⟩, ⟨d0, d1, d2⟩, ⟨f0, f1, f2⟩, g0, g1, g2⟩ := hT2.cells))
    all_goals (go_wp2_with fail; go_meet)
    all_goals exact TwoIn.stored a.plain b.plain (a := a) (b := b) (by assumption)
  case rest =>
    obtain ⟨⟨c0, c1, c2⟩, ⟨d0, d1, d2⟩, ⟨f0, f1, f2⟩, g0, g1, g2⟩ := hcut.cells
    go_wp2_with (first
      | (go_at_call 70; refine (Tryz.sign _ _).mono ?_; rintro e w2 ⟨rfl, rfl⟩)
      | (go_at_call 71; refine (Tryz.strings_Compare _ _ _).mono ?_; rintro e w2 ⟨rfl, rfl⟩))
    all_goals go_ret
    all_goals refine ⟨congrArg (fun z => Ending.returned (.int .i64 z)) ?_, hcut.2.2.1⟩
    all_goals (show _ = comparedN _ _; unfold comparedN cmpS; simp_all)
end Go.Proofs
