/- Of package value and of the document's package: two lists of values compared. No condition. -/
import Derived.Test.YtkpligcifakmjaaGreatDoorOrdR
namespace Go.Proofs
open Go.RowKit

/-- At the address lie the values of a list, all in blocks below N. -/
def RowAt (w : World) (N : Nat) (ad : Option Addr) (l : List Val) : Prop :=
  ∀ i (h : i < l.length), ∃ p o, ad = some ⟨p, o, none⟩ ∧ p < N ∧ w.cell? ⟨p, o + i * 3, none⟩ = some (.int .i64 l[i].k) ∧ w.cell? ⟨p, o + i * 3 + 1, none⟩ = some (.int .i64 l[i].n) ∧ w.cell? ⟨p, o + i * 3 + 2, none⟩ = some (.string l[i].s) ∧ l[i].s.size ≤ 9223372036854775807

theorem RowAt.below {w w' : World} {N : Nat} {ad : Option Addr} {l : List Val} (h : RowAt w N ad l) (hb : Below N w w') : RowAt w' N ad l := by
  intro i hi
  obtain ⟨p, o, h1, h2, h3, h4, h5, h6⟩ := h i hi
  exact ⟨p, o, h1, h2, (hb.cell h2).trans h3, (hb.cell h2).trans h4, (hb.cell h2).trans h5, h6⟩

theorem RowAt.later {w w' : World} {ad : Option Addr} {l : List Val} (h : RowAt w w.heap.size ad l) (hb : Below w.heap.size w w') : RowAt w' w'.heap.size ad l := by
  intro i hi
  obtain ⟨p, o, h1, h2, h3⟩ := h.below hb i hi
  exact ⟨p, o, h1, Nat.lt_of_lt_of_le h2 hb.size, h3⟩

def cmpL : List Val → List Val → Int
  | [], [] => 0
  | [], _ :: _ => -1
  | _ :: _, [] => 1
  | x :: a, y :: b => if orderN x.plain y.plain ≠ 0 then orderN x.plain y.plain else cmpL a b

theorem cmpL_step {a b : List Val} {k : Nat} (ha : k < a.length) (hb : k < b.length) : cmpL (a.drop k) (b.drop k) = if orderN a[k].plain b[k].plain ≠ 0 then orderN a[k].plain b[k].plain else cmpL (a.drop (k + 1)) (b.drop (k + 1)) := by
  rw [List.drop_eq_getElem_cons ha, List.drop_eq_getElem_cons hb]
  rfl

theorem cmpL_end {a b : List Val} {k : Nat} (h : ¬ k < a.length ∨ ¬ k < b.length) (ha : k ≤ a.length) (hb : k ≤ b.length) : cmpL (a.drop k) (b.drop k) = cmpI a.length b.length := by
  by_cases h1 : k < a.length
  · have h2 : ¬ k < b.length := by omega
    rw [List.drop_eq_getElem_cons h1, List.drop_of_length_le (show b.length ≤ k by omega)]
    unfold cmpL cmpI
    grind
  · rw [List.drop_of_length_le (show a.length ≤ k by omega)]
    by_cases h2 : k < b.length
    · rw [List.drop_eq_getElem_cons h2]
      unfold cmpL cmpI
      grind
    · rw [List.drop_of_length_le (show b.length ≤ k by omega)]
      unfold cmpL cmpI
      grind

theorem rows_call {N p q o r : Nat} {w w1 w2 : World} {x0 x1 x2 y0 y1 y2 : Value} (hp : p < N) (hq : q < N)
    (h : w1.cell? ⟨p, o, none⟩ = some x0 ∧ w1.cell? ⟨p, o + 1, none⟩ = some x1 ∧ w1.cell? ⟨p, o + 2, none⟩ = some x2 ∧
      w1.cell? ⟨q, r, none⟩ = some y0 ∧ w1.cell? ⟨q, r + 1, none⟩ = some y1 ∧ w1.cell? ⟨q, r + 2, none⟩ = some y2 ∧ Below N w w1 ∧ N ≤ w1.heap.size) (hb : Below w1.heap.size w1 w2) :
    w2.cell? ⟨p, o, none⟩ = some x0 ∧ w2.cell? ⟨p, o + 1, none⟩ = some x1 ∧ w2.cell? ⟨p, o + 2, none⟩ = some x2 ∧
      w2.cell? ⟨q, r, none⟩ = some y0 ∧ w2.cell? ⟨q, r + 1, none⟩ = some y1 ∧ w2.cell? ⟨q, r + 2, none⟩ = some y2 ∧ Below N w w2 ∧ N ≤ w2.heap.size := by
  obtain ⟨h0, h1, h2, h3, h4, h5, hk, hz⟩ := h
  have hs := hb.size
  exact ⟨(hb.cell (Nat.lt_of_lt_of_le hp hz)).trans h0, (hb.cell (Nat.lt_of_lt_of_le hp hz)).trans h1, (hb.cell (Nat.lt_of_lt_of_le hp hz)).trans h2, (hb.cell (Nat.lt_of_lt_of_le hq hz)).trans h3, (hb.cell (Nat.lt_of_lt_of_le hq hz)).trans h4, (hb.cell (Nat.lt_of_lt_of_le hq hz)).trans h5, hk.trans (hb.mono hz), by omega⟩

set_option maxRecDepth 20000 in
theorem Tryz.compareLists (a b : List Val) (ad bd : Option Addr) (ca cb : Nat) (w : World) (ha : RowAt w w.heap.size ad a) (hb : RowAt w w.heap.size bd b) (la : a.length ≤ 9223372036854775807) :
    Calls Tryz.prog 25 #[.slice ad a.length ca, .slice bd b.length cb] w fun e w' => e = .returned (.int .i64 (cmpL a b)) ∧ Below w.heap.size w w' := by
  go_enter Tryz.func25, Tryz.ntmps25
  go_wp2
  go_loopw [12] (fun i wr => ∃ k : Nat, i = .int .i64 k ∧ k ≤ a.length ∧ k ≤ b.length ∧ cmpL (a.drop k) (b.drop k) = cmpL a b ∧ Below w.heap.size w wr) (fun i _ => a.length - (intOf i).toNat)
  case atStart => exact ⟨0, rfl, Nat.zero_le _, Nat.zero_le _, rfl, Below.refl _ _⟩
  case round =>
    obtain ⟨k, rfl, hka, hkb, hk, hw⟩ := hrel
    by_cases hlt : k < a.length ∧ k < b.length
    · obtain ⟨p, o, rfl, hp, c0, c1, c2, sa⟩ := ha.below hw k hlt.1
      obtain ⟨q, r, rfl, hq, d0, d1, d2, sb⟩ := hb.below hw k hlt.2
      go_wp2_with fail
      go_region_held3 (fun w' => w'.cell? ⟨p, o + k * 3, none⟩ = some (.int .i64 a[k].k) ∧ w'.cell? ⟨p, o + k * 3 + 1, none⟩ = some (.int .i64 a[k].n) ∧ w'.cell? ⟨p, o + k * 3 + 2, none⟩ = some (.string a[k].s) ∧
          w'.cell? ⟨q, r + k * 3, none⟩ = some (.int .i64 b[k].k) ∧ w'.cell? ⟨q, r + k * 3 + 1, none⟩ = some (.int .i64 b[k].n) ∧ w'.cell? ⟨q, r + k * 3 + 2, none⟩ = some (.string b[k].s) ∧ Below w.heap.size w w' ∧ w.heap.size ≤ w'.heap.size)
        (first | exact ⟨c0, c1, c2, d0, d1, d2, hw.drew, hw.size⟩ | exact rows_call hp hq (by assumption) (by assumption))
        (first
        | (go_at_call 23; refine (Tryz.compare a[k] b[k] sa sb _).mono ?_; rintro e w2 ⟨rfl, hb2⟩))
      rename_i hheld
      have hk2 : Below w.heap.size w w2 := hheld.2.2.2.2.2.2.1
      clear hheld
      go_wp2_with fail
      · rename_i hne
        go_ret
        exact ⟨congrArg (fun z => Ending.returned (.int .i64 z)) (by rw [← hk, cmpL_step hlt.1 hlt.2, if_pos (by simpa using hne)]), hk2⟩
      · rename_i hne
        go_roundw
        case rel => exact ⟨k + 1, by go_num, by omega, by omega, by rw [← hk, cmpL_step hlt.1 hlt.2, if_neg (by simpa using hne)], hk2⟩
        case measure => simp [intOf]; omega
    · go_wp2_with (first | (go_at_call 72; refine (Tryz.cmpInt _ _ _).mono ?_; rintro e w2 ⟨rfl, rfl⟩))
      go_ret
      exact ⟨congrArg (fun z => Ending.returned (.int .i64 z)) (by rw [← hk]; exact (cmpL_end (by omega) hka hkb).symm), hw⟩
set_option maxRecDepth 20000 in
theorem Tryz.compareFunc (a b : List Val) (ad bd : Option Addr) (ca cb : Nat) (w : World) (ha : RowAt w w.heap.size ad a) (hb : RowAt w w.heap.size bd b) (la : a.length ≤ 9223372036854775807) :
    Calls Tryz.prog 73 #[.slice ad a.length ca, .slice bd b.length cb, .func (.func 24) #[] #[]] w fun e w' => e = .returned (.int .i64 (cmpL a b)) ∧ Below w.heap.size w w' := by
  go_enter Tryz.func73, Tryz.ntmps73
  go_wp2
  go_loopw [13] (fun i wr => ∃ k : Nat, i = .int .i64 k ∧ k ≤ a.length ∧ k ≤ b.length ∧ cmpL (a.drop k) (b.drop k) = cmpL a b ∧ Below w.heap.size w wr) (fun i _ => a.length - (intOf i).toNat)
  case atStart => exact ⟨0, rfl, Nat.zero_le _, Nat.zero_le _, rfl, Below.refl _ _⟩
  case round =>
    obtain ⟨k, rfl, hka, hkb, hk, hw⟩ := hrel
    by_cases hlt : k < a.length ∧ k < b.length
    · obtain ⟨p, o, rfl, hp, c0, c1, c2, sa⟩ := ha.below hw k hlt.1
      have hw1 : Below w.heap.size w (wr.alloc (.cells #[.int .i64 a[k].k, .int .i64 a[k].n, .string a[k].s] 23)) := hw.alloc hw.size _
      have hw2 := hw1.alloc hw1.size (.cells #[.int .i64 b[k].k, .int .i64 b[k].n, .string b[k].s] 23)
      obtain ⟨q, r, rfl, hq, d0, d1, d2, sb⟩ := hb.below hw1 k hlt.2
      go_wp2_with (go_at_call 24; refine (Tryz.compared a[k] b[k] sa sb _).mono ?_; rintro e w2 ⟨rfl, hb2⟩)
      · rename_i hne
        go_ret
        exact ⟨congrArg (fun z => Ending.returned (.int .i64 z)) (by rw [← hk, cmpL_step hlt.1 hlt.2, if_pos (by simpa using hne)]), hw2.trans (hb2.mono hw2.size)⟩
      · rename_i hne
        go_roundw
        case rel => exact ⟨k + 1, by go_num, by omega, by omega, by rw [← hk, cmpL_step hlt.1 hlt.2, if_neg (by simpa using hne)], hw2.trans (hb2.mono hw2.size)⟩
        case measure => simp [intOf]; omega
    · by_cases h1 : k < a.length
      · obtain ⟨p, o, rfl, hp, c0, c1, c2, sa⟩ := ha.below hw k h1
        go_wp2
        go_ret
        exact ⟨congrArg (fun z => Ending.returned (.int .i64 z)) (by rw [← hk, cmpL_end (by omega) hka hkb]; unfold cmpI; grind), hw.alloc hw.size _⟩
      · go_wp2
        all_goals go_ret
        all_goals exact ⟨congrArg (fun z => Ending.returned (.int .i64 z)) (by rw [← hk, cmpL_end (by omega) hka hkb]; unfold cmpI; grind), hw⟩

theorem Tryz.comparedLists (a b : List Val) (ad bd : Option Addr) (ca cb : Nat) (w : World) (ha : RowAt w w.heap.size ad a) (hb : RowAt w w.heap.size bd b) (la : a.length ≤ 9223372036854775807) :
    Calls Tryz.prog 26 #[.slice ad a.length ca, .slice bd b.length cb] w fun e w' => e = .returned (.int .i64 (cmpL a b)) ∧ Below w.heap.size w w' := by
  go_enter Tryz.func26, Tryz.ntmps26
  go_wp2_with (go_at_call 73; refine (Tryz.compareFunc a b ad bd ca cb _ ha hb la).mono ?_; rintro e w2 ⟨rfl, hb2⟩)
  go_ret
  exact ⟨rfl, hb2⟩

theorem cell_block {W : World} {g i : Nat} {cs : Array Value} {t : TypeId} {fr : Nat × Nat} (h : W.heap[g]? = some (.cells cs t fr)) : W.drew.cell? ⟨g, i, none⟩ = cs[i]? := by
  show W.cell? _ = _
  simp [World.cell?, h]

set_option maxRecDepth 20000 in
theorem Tryz.ordersLaw (a b : List Val) (ad bd : Option Addr) (ca cb : Nat) (w : World) (ha : RowAt w w.heap.size ad a) (hb : RowAt w w.heap.size bd b) (la : a.length ≤ 9223372036854775807) (lb : b.length ≤ 9223372036854775807) (htab : Lib.TabIs Tryz.prog w "strings.asciiSpace" .u8 Lib.asciiSpaceTab) :
    Calls Tryz.prog 5 #[.slice ad a.length ca, .slice bd b.length cb] w fun e w' => e = .returned (.bool true) ∧ Below w.heap.size w w' := by
  go_enter Tryz.func5, Tryz.ntmps5
  go_wp2_with fail
  go_loopw [11] (fun i wr => ∃ k : Nat, i = .int .i64 k ∧ k ≤ a.length ∧ Below w.heap.size w wr) (fun i _ => a.length - (intOf i).toNat)
  case atStart => exact ⟨0, rfl, Nat.zero_le _, Below.refl _ _⟩
  case round =>
    obtain ⟨k, rfl, hka, hw⟩ := hrel
    by_cases hlt : k < a.length
    · obtain ⟨p, o, rfl, hp, c0, c1, c2, sa⟩ := ha.below hw k hlt
      go_wp2_with fail
      have hw1 : Below w.heap.size w (wr.alloc (.cells #[.int .i64 a[k].k, .int .i64 a[k].n, .string a[k].s] 23)) := hw.alloc hw.size _
      have hx := heap_alloc_new wr (.cells #[.int .i64 a[k].k, .int .i64 a[k].n, .string a[k].s] 23)
      have hxs : wr.heap.size < (wr.alloc (.cells #[.int .i64 a[k].k, .int .i64 a[k].n, .string a[k].s] 23)).heap.size := by unfold World.alloc; simp
      generalize wr.heap.size = g at hx hxs ⊢
      generalize wr.alloc (.cells #[.int .i64 a[k].k, .int .i64 a[k].n, .string a[k].s] 23) = W1 at hw1 hx hxs ⊢
      clear c0 c1 c2
      go_loopw [17] (fun i wi => ∃ j : Nat, i = .int .i64 j ∧ j ≤ b.length ∧ Below W1.heap.size W1 wi) (fun i _ => b.length - (intOf i).toNat)
      case atStart => exact ⟨0, rfl, Nat.zero_le _, Below.refl _ _⟩
      case round =>
        obtain ⟨j, rfl, hjb, hv⟩ := hrel
        have hwv := hw1.trans (hv.mono hw1.size)
        by_cases hjt : j < b.length
        · obtain ⟨q, r, rfl, hq, d0, d1, d2, sb⟩ := hb.below hwv j hjt
          go_wp2_with fail
          have hxi : wr.heap[g]? = some (.cells #[.int .i64 a[k].k, .int .i64 a[k].n, .string a[k].s] 23) := (hv.block _ hxs).trans hx
          have hgi : g < wr.heap.size := Nat.lt_of_lt_of_le hxs hv.size
          have hwi : Below w.heap.size w (wr.alloc (.cells #[.int .i64 b[j].k, .int .i64 b[j].n, .string b[j].s] 23)) := hwv.alloc hwv.size _
          have hvi : Below W1.heap.size W1 (wr.alloc (.cells #[.int .i64 b[j].k, .int .i64 b[j].n, .string b[j].s] 23)) := hv.alloc hv.size _
          have hy := heap_alloc_new wr (.cells #[.int .i64 b[j].k, .int .i64 b[j].n, .string b[j].s] 23)
          have hx2 := (heap_alloc_old wr (.cells #[.int .i64 b[j].k, .int .i64 b[j].n, .string b[j].s] 23) hgi).trans hxi
          have hys : wr.heap.size < (wr.alloc (.cells #[.int .i64 b[j].k, .int .i64 b[j].n, .string b[j].s] 23)).heap.size := by unfold World.alloc; simp
          generalize wr.heap.size = g2 at hy hys hgi ⊢
          generalize wr.alloc (.cells #[.int .i64 b[j].k, .int .i64 b[j].n, .string b[j].s] 23) = W2 at hwi hvi hy hx2 hys ⊢
          have hgs : g < W2.heap.size := Nat.lt_trans hgi hys
          go_region_held3 (fun w' => w'.cell? ⟨g, 0, none⟩ = some (.int .i64 a[k].k) ∧ w'.cell? ⟨g, 0 + 1, none⟩ = some (.int .i64 a[k].n) ∧ w'.cell? ⟨g, 0 + 2, none⟩ = some (.string a[k].s) ∧
              w'.cell? ⟨g2, 0, none⟩ = some (.int .i64 b[j].k) ∧ w'.cell? ⟨g2, 0 + 1, none⟩ = some (.int .i64 b[j].n) ∧ w'.cell? ⟨g2, 0 + 2, none⟩ = some (.string b[j].s) ∧ Below W2.heap.size W2 w' ∧ W2.heap.size ≤ w'.heap.size)
            (first | exact ⟨cell_block hx2, cell_block hx2, cell_block hx2, cell_block hy, cell_block hy, cell_block hy, (Below.refl _ _).drew, Nat.le_refl _⟩ | exact rows_call hgs hys (by assumption) (by assumption))
            (first
            | (go_at_call 23; refine (Tryz.compare a[k] b[j] sa sb _).mono ?_; rintro e w2 ⟨rfl, hb2⟩)
            | (go_at_call 24; refine (Tryz.compared a[k] b[j] sa sb _).mono ?_; rintro e w3 ⟨rfl, hb3⟩))
          rename_i hheld
          have hk2 : Below W2.heap.size W2 w3 := hheld.2.2.2.2.2.2.1
          clear hheld
          go_wp2_with fail
          go_roundw
          case rel => exact ⟨j + 1, by go_num, by omega, hvi.trans (hk2.mono hvi.size)⟩
          case measure => simp [intOf]; omega
        · go_wp2_with fail
          go_roundw
          case rel => exact ⟨k + 1, by go_num, by omega, hwv⟩
          case measure => simp [intOf]; omega
    · go_wp2_with (first
        | (go_at_call 9; refine (Tryz.values_calls _ (Lib.tabBelow_of_tabIs htab _ hw)).mono ?_; rintro e w2 ⟨rfl, hb2⟩; have hw2 := hw.trans (hb2.mono hw.size))
        | (go_at_call 25; refine (Tryz.compareLists a b ad bd ca cb _ (ha.later (by assumption)) (hb.later (by assumption)) la).mono ?_; rintro e w3 ⟨rfl, hb3⟩; have hw3 := hw2.trans (hb3.mono hw2.size))
        | (go_at_call 26; refine (Tryz.comparedLists a b ad bd ca cb _ (ha.later (by assumption)) (hb.later (by assumption)) la).mono ?_; rintro e w4 ⟨rfl, hb4⟩; have hw4 := hw3.trans (hb4.mono hw3.size)))
      go_ret
      exact ⟨rfl, hw4⟩
end Go.Proofs
