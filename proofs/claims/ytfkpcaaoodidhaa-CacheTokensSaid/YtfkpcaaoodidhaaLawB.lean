/- Of the law of tokens: its walk. -/
import Derived.Test.YtfkpcaaoodidhaaLawA
import Derived.Deep.CutBlock
namespace Go.Proofs
open Go.RowKit

theorem Live.start (w : World) (ad : Option Addr) (n cap : Nat) : Live w (w.alloc (.cells #[.slice ad n cap, .int .i64 0] 25)) ad n cap 0 (.slice none 0 0) [] :=
  ⟨⟨0, Int.le_refl _, Int.le_refl _, heap_alloc_new _ _⟩, Own.alloc (Own.start w 3 1) _⟩

section
variable {w W : World} {ad : Option Addr} {cap k : Nat} {zs : List Int} {v : Value} {l : List Int}

theorem Live.size (h : Live w W ad zs.length cap k v l) : w.heap.size < W.heap.size := by
  obtain ⟨⟨a, _, _, hS⟩, _⟩ := h
  exact (Array.getElem?_eq_some_iff.1 hS).1

/-- A pick of numbers written out, their block said by an equation. -/
theorem Live.pickE (h : Live w W ad zs.length cap k v l) (hz : IntsAt w w.heap.size ad zs) (hl : zs.length ≤ 9223372036854775807) (hk : k < 1000000) (xs : List Int) (h1 : 1 ≤ xs.length) (h2 : xs.length ≤ 1000) (N : Nat) (hN : W.heap.size = N) :
    Calls Try.prog 4 #[.pointer (some ⟨w.heap.size, 0, none⟩), .slice (some ⟨N, 0, none⟩) xs.length xs.length] (W.alloc (.cells (xs.map (Value.int .i64)).toArray 3)) fun e w' => (∃ r, r ∈ xs ∧ e = .returned (.int .i64 r)) ∧ Live w w' ad zs.length cap (k + 1) v l ∧ Only w.heap.size (W.alloc (.cells (xs.map (Value.int .i64)).toArray 3)) w' := by
  subst hN
  exact h.pickN hz hl hk xs h1 h2
end

theorem Live.swap {w W W' : World} {ad : Option Addr} {n cap k : Nat} {v v' : Value} {l l' : List Int} (h : Live w W ad n cap k v l) (ho : OwnI W.heap.size v' l' W W') : Live w W' ad n cap k v' l' := by
  obtain ⟨⟨a, h1, h2, h3⟩, h4⟩ := h
  exact ⟨⟨a, h1, h2, (ho.2.1.block _ (Array.getElem?_eq_some_iff.1 h3).1).trans h3⟩, ho.base h4.2.1⟩

def smallL (l : List Int) : Prop := ∀ x ∈ l, -9223372036854775808 ≤ x ∧ x ≤ 9223372036854775807

theorem smallL_nil : smallL [] := fun x h => by cases h

theorem smallL_snoc {l : List Int} {x : Int} (h : smallL l) (h1 : -9223372036854775808 ≤ x) (h2 : x ≤ 9223372036854775807) : smallL (l ++ [x]) := by
  intro y hy
  rcases List.mem_append.1 hy with hy | hy
  · exact h y hy
  · rw [List.mem_singleton.1 hy]
    exact ⟨h1, h2⟩

/-- What both makers of tokens answer. -/
theorem issued_open (s : ByteArray) (l : List Int) (u : Int) (hs : smallL l) (hl : l.length ≤ 300) (h1 : -1 ≤ u) (h2 : u ≤ 253402300800) : ∃ (t : List Int) (u' h' er : Int), smallL t ∧ t.length ≤ 300 ∧ -1 ≤ u' ∧ u' ≤ 253402300800 ∧
    ∀ w e w', Issued s l u w e w' → ∃ v, e = .returned (.tuple #[tokV v u' h', .int .i64 er]) ∧ OwnI w.heap.size v t w w' := by
  have hnil : ∀ {w w' : World}, Below w.heap.size w w' → OwnI w.heap.size (.slice none 0 0) [] w w' := fun hb => Own.call (Own.start _ 3 1) hb
  unfold Issued
  by_cases a1 : tokOk s l u = true
  · by_cases a2 : 200 < l.length
    · refine ⟨[], 0, 0, 2, smallL_nil, by simp, by omega, by omega, ?_⟩
      rintro w e w' ⟨hb, h⟩
      rw [if_pos a1, if_pos a2] at h
      exact ⟨_, h, hnil hb⟩
    · refine ⟨tokL l, u, hashL (keyL (sumL s u (tokL l))), 0, tokL_small hs, Nat.le_trans (tokL_length l) hl, h1, h2, ?_⟩
      rintro w e w' ⟨hb, h⟩
      rw [if_pos a1, if_neg a2] at h
      obtain ⟨v, hO, he⟩ := h
      exact ⟨v, he, hO⟩
  · refine ⟨[], 0, 0, 1, smallL_nil, by simp, by omega, by omega, ?_⟩
    rintro w e w' ⟨hb, h⟩
    rw [if_neg a1] at h
    exact ⟨_, h, hnil hb⟩

def five : Array Value := #[.string ⟨#[115]⟩, .string ⟨#[105, 116, 39, 115]⟩, .string ⟨#[]⟩, .string ⟨#[97, 10]⟩, .string ⟨#[97, 98, 99]⟩]

theorem five_at (r : Int) (h : r ∈ ([0, 0, 0, 1, 2, 3, 4] : List Int)) : ∃ (k : Nat) (s : ByteArray), r = k ∧ k < 5 ∧ five[k]? = some (.string s) ∧ s.size ≤ 4 := by
  simp only [List.mem_cons, List.mem_nil_iff, or_false] at h
  rcases h with rfl | rfl | rfl | rfl | rfl | rfl | rfl
  · exact ⟨0, _, rfl, by decide, rfl, by decide⟩
  · exact ⟨0, _, rfl, by decide, rfl, by decide⟩
  · exact ⟨0, _, rfl, by decide, rfl, by decide⟩
  · exact ⟨1, _, rfl, by decide, rfl, by decide⟩
  · exact ⟨2, _, rfl, by decide, rfl, by decide⟩
  · exact ⟨3, _, rfl, by decide, rfl, by decide⟩
  · exact ⟨4, _, rfl, by decide, rfl, by decide⟩

theorem row_cell {g N k : Nat} {W w1 : World} {o : Obj} {cs : Array Value} {t : TypeId} {v : Value} (ho : Only g ((W.alloc (.cells cs t)).alloc o) w1) (hN : W.heap.size = N) (hne : N ≠ g) (h : cs[k]? = some v) : w1.cell? ⟨N, k, none⟩ = some v := by
  subst hN
  have hb : w1.heap[W.heap.size]? = some (.cells cs t) := by
    exact (ho.2.1 _ hne).trans ((heap_alloc_old (W.alloc (.cells cs t)) o _ (by rw [alloc_one]; omega)).trans (heap_alloc_new W _))
  unfold World.cell?
  simp only [hb]
  exact h

set_option maxRecDepth 20000 in
set_option maxHeartbeats 8000000 in
theorem Try.law (ad : Option Addr) (cap : Nat) (zs : List Int) (w : World) (hz : IntsAt w w.heap.size ad zs) (hl : zs.length ≤ 9223372036854775807) :
    Calls Try.prog 3 #[.slice ad zs.length cap] w fun e w' => e = .returned (.bool true) ∧ Below w.heap.size w w' := by
  have hL0 := Live.start w ad zs.length cap
  have hn0 : (w.alloc (.cells #[.slice ad zs.length cap, .int .i64 0] 25)).heap.size = w.heap.size + 1 := alloc_one _ _
  have hp := (hL0.alloc (.cells five 9)).pickE hz hl (by omega) [0, 0, 0, 1, 2, 3, 4] (by decide) (by decide) (w.heap.size + 1 + 1) (by rw [alloc_one, alloc_one])
  clear hL0
  go_enter Try.func3, Try.ntmps3
  go_wp2_with fail
  refine Calls.mono hp ?_
  clear hp
  rintro e w1 ⟨⟨r, hr, rfl⟩, hL1, ho1⟩
  obtain ⟨k, s, rfl, hk5, hks, hs4⟩ := five_at r hr
  have hcs : w1.cell? ⟨w.heap.size + 1, k, none⟩ = some (.string s) := row_cell ho1 hn0 (by omega) hks
  clear ho1 hr hn0
  go_upto_region 4 with fail
  have hp := hL1.pickE hz hl (by omega) [0, 1, 2, 4] (by decide) (by decide) _ rfl
  clear hL1 hcs hks hk5
  go_wp2_with fail
  refine Calls.mono hp ?_
  clear hp
  rintro e w2 ⟨⟨c, hc, rfl⟩, hL2, -⟩
  obtain ⟨c, rfl, hc4⟩ : ∃ m : Nat, c = m ∧ m ≤ 4 := by
    simp only [List.mem_cons, List.mem_nil_iff, or_false] at hc
    exact ⟨c.toNat, by omega, by omega⟩
  clear hc
  go_wp2_with fail
  go_loopw [5, 25] (fun o i wr => ∃ (j : Nat) (l : List Int), i = .int .i64 j ∧ j ≤ c ∧ l.length = j ∧ smallL l ∧ Live w wr ad zs.length cap (2 + j) o l) (fun _ i _ => c - (intOf i).toNat)
  case atStart => exact ⟨0, [], rfl, Nat.zero_le _, rfl, smallL_nil, hL2⟩
  case round =>
    obtain ⟨j, l, rfl, hjc, hlj, hsl, hL⟩ := hrel
    by_cases hlt : j < c
    · have hp := hL.pickE hz hl (by omega) [1, 2, 3, 3, 9, 999999999999999] (by decide) (by decide) _ rfl
      have hal : l.length + 1 ≤ 1000000000 := by omega
      go_wp2_with fail
      refine Calls.mono hp ?_
      clear hp
      rintro e w3 ⟨⟨x, hx, rfl⟩, hL3, -⟩
      have hx2 : 1 ≤ x ∧ x ≤ 999999999999999 := by
        simp only [List.mem_cons, List.mem_nil_iff, or_false] at hx
        omega
      clear hx hL
      go_wp2_with (at_builtin; refine append_live ?_ (.tmp 27) (.tmp 31) ?_ hL3 x hal ?_ ?_ ?_; rfl; rfl; rfl; exact ⟨_, rfl, rfl⟩; intro v4 w4 hL4)
      go_roundw
      case rel => exact ⟨j + 1, _, by go_num, by omega, by rw [List.length_append, hlj]; rfl, smallL_snoc hsl (by omega) (by omega), hL4.mono (by omega)⟩
      case measure => simp [intOf]; omega
    · have hp := hL.flipC hz hl (by omega) 12 (by decide) (by decide)
      have hj4 : j ≤ 4 := Nat.le_trans hjc hc4
      clear hL2
      go_wp2_with fail
      refine Calls.mono hp ?_
      clear hp hL
      rintro e w3 ⟨⟨b, rfl⟩, hL, -⟩
      go_upto_if 35 with fail
      go_cut [5] from 36 to 41 (fun s5 wx => ∃ l' : List Int, l'.length ≤ 5 ∧ smallL l' ∧ Live w wx ad zs.length cap 20 s5 l')
      case first =>
        cases b
        · go_wp2_with fail
          go_meet
          exact ⟨l, by omega, hsl, hL.mono (by omega)⟩
        · have hp := hL.pickE hz hl (by omega) [0, -1, 1000000000000000] (by decide) (by decide) _ rfl
          have hal : l.length + 1 ≤ 1000000000 := by omega
          go_wp2_with fail
          refine Calls.mono hp ?_
          clear hp
          rintro e w4 ⟨⟨x, hx, rfl⟩, hL4, -⟩
          have hx2 : -1 ≤ x ∧ x ≤ 1000000000000000 := by
            simp only [List.mem_cons, List.mem_nil_iff, or_false] at hx
            omega
          clear hx hL
          go_wp2_with (at_builtin; refine append_live ?_ (.tmp 36) (.tmp 40) ?_ hL4 x hal ?_ ?_ ?_; rfl; rfl; rfl; exact ⟨_, rfl, rfl⟩; intro v5 w5 hL5)
          go_meet
          exact ⟨_, by rw [List.length_append]; simp; omega, smallL_snoc hsl (by omega) (by omega), hL5.mono (by omega)⟩
      case rest =>
        clear hsl hlj hjc hj4 hlt hc4 hL
        obtain ⟨l1, hl1, hs1, hL⟩ := hcut
        have hp := hL.flipC hz hl (by omega) 25 (by decide) (by decide)
        go_wp2_with fail
        refine Calls.mono hp ?_
        clear hp hL
        rintro e w5 ⟨⟨b, rfl⟩, hL, -⟩
        go_upto_if 43 with fail
        go_cut [5] from 44 to 55 (fun s5 wx => ∃ l' : List Int, l'.length ≤ 300 ∧ smallL l' ∧ Live w wx ad zs.length cap 300 s5 l')
        case first =>
          cases b
          · go_wp2_with fail
            go_meet
            exact ⟨l1, by omega, hs1, hL.mono (by omega)⟩
          · have hp := hL.pickE hz hl (by omega) [199, 200, 201] (by decide) (by decide) _ rfl
            go_wp2_with fail
            refine Calls.mono hp ?_
            clear hp
            rintro e w6 ⟨⟨c2, hc2, rfl⟩, hL6, -⟩
            obtain ⟨c2, rfl, hc201⟩ : ∃ m : Nat, c2 = m ∧ m ≤ 201 := by
              simp only [List.mem_cons, List.mem_nil_iff, or_false] at hc2
              exact ⟨c2.toNat, by omega, by omega⟩
            clear hc2 hL
            go_wp2_with fail
            go_loopw [5, 47] (fun o i wr => ∃ (j : Nat) (l : List Int), i = .int .i64 j ∧ j ≤ c2 ∧ l.length ≤ 5 + j ∧ smallL l ∧ Live w wr ad zs.length cap (22 + j) o l) (fun _ i _ => c2 - (intOf i).toNat)
            case atStart => exact ⟨0, l1, rfl, Nat.zero_le _, hl1, hs1, hL6⟩
            case round =>
              obtain ⟨j, l, rfl, hjc, hlj, hsl, hL⟩ := hrel
              by_cases hlt : j < c2
              · have hp := hL.nextC hz hl (by omega) 3 (by decide) (by decide)
                have hal : l.length + 1 ≤ 1000000000 := by omega
                go_wp2_with fail
                refine Calls.mono hp ?_
                clear hp
                rintro e w7 ⟨⟨x, hx1, hx2, rfl⟩, hL3, -⟩
                clear hL
                go_wp2_with (at_builtin; refine append_live ?_ (.tmp 49) (.tmp 53) ?_ hL3 (1 + x) hal ?_ ?_ ?_; rfl; rfl; rfl; exact ⟨_, rfl, rfl⟩; intro v4 w4 hL4)
                go_roundw
                case rel => exact ⟨j + 1, _, by go_num, by omega, by rw [List.length_append]; simp; omega, smallL_snoc hsl (by omega) (by omega), hL4.mono (by omega)⟩
                case measure => simp [intOf]; omega
              · go_wp2_with fail
                go_meet
                exact ⟨l, by omega, hsl, hL.mono (by omega)⟩
        case rest =>
          clear hL hs1 hl1
          obtain ⟨l, hll, hsl, hL⟩ := hcut
          have hp := hL.pickE hz hl (by omega) [0, 60, 60, 60, 253402300799, 253402300800, -1] (by decide) (by decide) _ rfl
          go_wp2_with fail
          refine Calls.mono hp ?_
          clear hp hL
          rintro e w8 ⟨⟨u, hu, rfl⟩, hL, -⟩
          have hu2 : -1 ≤ u ∧ u ≤ 253402300800 := by
            simp only [List.mem_cons, List.mem_nil_iff, or_false] at hu
            omega
          clear hu
          obtain ⟨t, u', h', er, ht, htl, hu1', hu2', hop⟩ := issued_open s l u hsl hll hu2.1 hu2.2
          have hop0 := Lib.hid hop
          clear hop
          obtain ⟨bd, cb, rfl, hnil⟩ := hL.2.slice
          obtain ⟨bd', cb', he, hI, -⟩ := hL.2.ints hsl
          simp only [Value.slice.injEq, true_and] at he
          obtain ⟨rfl, rfl⟩ := he
          have hp := Try.issue s (by omega) l bd cb u w8 hI (by omega) hnil
          clear hsl
          go_wp2_with fail
          refine Calls.mono hp ?_
          clear hp
          rintro e w9 hiss
          obtain ⟨v7, rfl, hO7⟩ := hop0.out _ _ _ hiss
          clear hiss
          have hL9 := hL.swap hO7
          have hI9 := hI.later hO7.2.1
          clear hL hI
          obtain ⟨b7, c7, rfl, hn7⟩ := hO7.slice
          obtain ⟨b7', c7', he, hI7, -⟩ := hO7.ints ht
          simp only [Value.slice.injEq, true_and] at he
          obtain ⟨rfl, rfl⟩ := he
          clear hO7
          unfold tokV
          go_upto_region 17 with fail
          have hb7 := heap_alloc_new w9 (.cells #[.slice b7 t.length c7, .int .i64 u', .int .u64 h'] 32)
          have hL10 := hL9.alloc (.cells #[.slice b7 t.length c7, .int .i64 u', .int .u64 h'] 32)
          have hI10 := hI9.later ((Below.refl _ _).alloc (Nat.le_refl _) (.cells #[.slice b7 t.length c7, .int .i64 u', .int .u64 h'] 32))
          have hJ10 := hI7.later ((Below.refl _ _).alloc (Nat.le_refl _) (.cells #[.slice b7 t.length c7, .int .i64 u', .int .u64 h'] 32))
          have hp7 := hL9.size
          clear hL9 hI9 hI7
          generalize w9.alloc (.cells #[.slice b7 t.length c7, .int .i64 u', .int .u64 h'] 32) = W at hb7 hL10 hI10 hJ10 ⊢
          generalize w9.heap.size = p7 at hb7 hp7 ⊢
          have hp := Try.issueOf s (by omega) l bd cb u W hI10 (by omega) hnil
          go_wp2_with fail
          refine Calls.mono hp ?_
          clear hp
          rintro e w11 hiss
          obtain ⟨v9, rfl, hO9⟩ := hop0.out _ _ _ hiss
          clear hiss hop0 hI10
          have hL11 := hL10.swap hO9
          have hJ11 := hJ10.later hO9.2.1
          have hb11 := (hO9.2.1.block _ (Array.getElem?_eq_some_iff.1 hb7).1).trans hb7
          clear hL10 hJ10 hb7
          obtain ⟨b9, c9, rfl, hn9⟩ := hO9.slice
          obtain ⟨b9', c9', he, hI9, -⟩ := hO9.ints ht
          simp only [Value.slice.injEq, true_and] at he
          obtain ⟨rfl, rfl⟩ := he
          clear hO9
          unfold tokV
          go_upto_region 18 with fail
          have hb9 := heap_alloc_new w11 (.cells #[.slice b9 t.length c9, .int .i64 u', .int .u64 h'] 32)
          have hb7 := (heap_alloc_old w11 (.cells #[.slice b9 t.length c9, .int .i64 u', .int .u64 h'] 32) _ (Array.getElem?_eq_some_iff.1 hb11).1).trans hb11
          have hL := hL11.alloc (.cells #[.slice b9 t.length c9, .int .i64 u', .int .u64 h'] 32)
          have hI := hI9.later ((Below.refl _ _).alloc (Nat.le_refl _) (.cells #[.slice b9 t.length c9, .int .i64 u', .int .u64 h'] 32))
          have hJ := hJ11.later ((Below.refl _ _).alloc (Nat.le_refl _) (.cells #[.slice b9 t.length c9, .int .i64 u', .int .u64 h'] 32))
          have hp9 := hL11.size
          clear hL11 hJ11 hI9 hb11
          generalize w11.alloc (.cells #[.slice b9 t.length c9, .int .i64 u', .int .u64 h'] 32) = W2 at hb9 hb7 hL hI hJ ⊢
          generalize w11.heap.size = p9 at hb9 hp9 ⊢
          have d70 : W2.cell? ⟨p7, 0, none⟩ = some (.slice b7 t.length c7) := cell_block hb7
          have d71 : W2.cell? ⟨p7, 1, none⟩ = some (.int .i64 u') := cell_block hb7
          have d72 : W2.cell? ⟨p7, 2, none⟩ = some (.int .u64 h') := cell_block hb7
          have d90 : W2.cell? ⟨p9, 0, none⟩ = some (.slice b9 t.length c9) := cell_block hb9
          have d91 : W2.cell? ⟨p9, 1, none⟩ = some (.int .i64 u') := cell_block hb9
          have d92 : W2.cell? ⟨p9, 2, none⟩ = some (.int .u64 h') := cell_block hb9
          have hp := Try.equalSame t b7 b9 c7 c9 W2 _ _ hJ hI (by omega)
          go_wp2_with fail
          refine Calls.mono hp ?_
          clear hp
          rintro e w12 ⟨rfl, nq, rfl⟩
          go_upto_region 20 with fail
          have hL := hL.later (W' := W2.drewN nq) (belowDrewN (Below.refl _ _))
          have hI := hI.later (w' := W2.drewN nq) (belowDrewN (Below.refl _ _))
          have hb9 : (W2.drewN nq).heap[p9]? = some (.cells #[.slice b9 t.length c9, .int .i64 u', .int .u64 h'] 32) := hb9
          clear d70 d71 d72 d90 d91 d92 hb7 hJ hp7
          generalize W2.drewN nq = W at hL hI hb9 ⊢
          have hp := hL.nextC hz hl (by omega) 8 (by decide) (by decide)
          go_wp2_with fail
          refine Calls.mono hp ?_
          clear hp hL hI
          rintro e W3 ⟨⟨r, hr1, hr2, rfl⟩, hL, ho⟩
          have hb9 : W3.heap[p9]? = some (.cells #[.slice b9 t.length c9, .int .i64 u', .int .u64 h'] 32) := (ho.2.1 p9 (by omega)).trans hb9
          clear ho
          obtain ⟨b9', c9', he, hI, -⟩ := hL.2.ints ht
          simp only [Value.slice.injEq, true_and] at he
          obtain ⟨rfl, rfl⟩ := he
          go_upto_block 4 with fail
          go_cut [] from 100 to 125 (fun wx => ∃ (v2 : Value) (l2 : List Int) (u2 h2 : Int), l2.length ≤ 400 ∧ smallL l2 ∧ Live w wx ad zs.length cap 400 v2 l2 ∧ wx.heap[p9]? = some (.cells #[v2, .int .i64 u2, .int .u64 h2] 32))
          case first =>
            have d90 : W3.cell? ⟨p9, 0, none⟩ = some (.slice b9 t.length c9) := cell_block hb9
            have d91 : W3.cell? ⟨p9, 1, none⟩ = some (.int .i64 u') := cell_block hb9
            have d92 : W3.cell? ⟨p9, 2, none⟩ = some (.int .u64 h') := cell_block hb9
            have f90 : W3.frozen? ⟨p9, 0, none⟩ = false := by simp [World.frozen?, hb9]
            have f91 : W3.frozen? ⟨p9, 1, none⟩ = false := by simp [World.frozen?, hb9]
            have f92 : W3.frozen? ⟨p9, 2, none⟩ = false := by simp [World.frozen?, hb9]
            have q0 := hL.put hb9 hp9 2 (.int .u64 (IntKind.u64.wrap (h' + 1)))
            have q1 := hL.put hb9 hp9 1 (.int .i64 (u' + 1))
            have q3 := hL.emptied.put hb9 hp9 0 (.slice none 0 0)
            rcases (show r = 0 ∨ r = 1 ∨ r = 2 ∨ r = 3 ∨ 4 ≤ r by omega) with rfl | rfl | rfl | rfl | hr4
            · go_wp2_with fail
              go_meet
              exact ⟨_, t, u', _, by omega, ht, q0.1.mono (by omega), q0.2⟩
            · go_wp2_with fail
              go_meet
              exact ⟨_, t, u' + 1, h', by omega, ht, q1.1.mono (by omega), q1.2⟩
            · have hp := Try.clone t b9 c9 W3 hI (by omega) hn9
              go_wp2_with fail
              refine Calls.mono hp ?_
              clear hp
              rintro e W4 ⟨v4, rfl, hO4⟩
              have hL4 := hL.swap hO4
              have hb4 := (hO4.2.1.block _ (Array.getElem?_eq_some_iff.1 hb9).1).trans hb9
              have hp := hL4.pickE hz hl (by omega) [1, 2, 0] (by decide) (by decide) _ rfl
              have hal : t.length + 1 ≤ 1000000000 := by omega
              have hb4' := (heap_alloc_old W4 (.cells ([1, 2, 0].map (Value.int .i64)).toArray 3) _ (Array.getElem?_eq_some_iff.1 hb4).1).trans hb4
              clear q0 q1 q3 d90 d91 d92 f90 f91 f92 hI
              go_wp2_with fail
              refine Calls.mono hp ?_
              clear hp
              rintro e W5 ⟨⟨x, hx, rfl⟩, hL5, ho5⟩
              have hx2 : 0 ≤ x ∧ x ≤ 2 := by
                simp only [List.mem_cons, List.mem_nil_iff, or_false] at hx
                omega
              have hb5 : W5.heap[p9]? = some (.cells #[.slice b9 t.length c9, .int .i64 u', .int .u64 h'] 32) := (ho5.2.1 p9 (by omega)).trans hb4'
              clear hx hL hL4 ho5 hb4 hb4' hb9
              go_wp2_with (at_builtin; refine append_live2 ?_ (.tmp 116) (.tmp 120) ?_ hL5 x hal ?_ ?_ ?_; rfl; rfl; rfl; exact ⟨_, rfl, rfl⟩; intro v6 W6 hL6 hbx; obtain ⟨b6, c6, hv6, -⟩ := hL6.2.slice; generalize (t ++ [x]).length = m6 at hv6; subst hv6; have hb6 := hbx.2 _ _ _ hb5; have f60 : W6.frozen? ⟨p9, 0, none⟩ = false := (by simp [World.frozen?, hb6]); have d60 : W6.cell? ⟨p9, 0, none⟩ = some (.slice b9 t.length c9) := cell_block hb6)
              go_meet
              have q2 := hL6.put hb6 hp9 0 (.slice b6 m6 c6)
              exact ⟨_, _, u', h', by rw [List.length_append]; simp; omega, smallL_snoc ht (by omega) (by omega), q2.1.mono (by omega), q2.2⟩
            · go_wp2_with fail
              go_meet
              exact ⟨_, [], u', h', by simp, smallL_nil, q3.1.mono (by omega), q3.2⟩
            · go_wp2_with fail
              go_meet
              exact ⟨_, t, u', h', by omega, ht, hL.mono (by omega), hb9⟩
          case rest =>
            clear hL hb9 hI hn9
            obtain ⟨v2, l2, u2, h2, hl2, hs2, hL, hb9⟩ := hcut
            have hp := hL.flipC hz hl (by omega) 8 (by decide) (by decide)
            go_wp2_with fail
            refine Calls.mono hp ?_
            clear hp hL
            rintro e W7 ⟨⟨b3, rfl⟩, hL, ho⟩
            have hb9 := (ho.2.1 p9 (by omega)).trans hb9
            clear ho
            go_upto_if 127 with fail
            go_cut [4] from 128 to 129 (fun s4 wx => ∃ s2 : ByteArray, s2.size ≤ 5 ∧ s4 = .string s2 ∧ W7 = wx)
            case first =>
              cases b3
              · go_wp2_with fail
                go_meet
                exact ⟨s, by omega, rfl, rfl⟩
              · go_wp2_with fail
                go_meet
                exact ⟨_, by rw [ByteArray.size_append]; show s.size + 1 ≤ 5; omega, rfl, rfl⟩
            case rest =>
              obtain ⟨s2, hs5, rfl, rfl⟩ := hcut
              have hp := hL.pickE hz hl (by omega) [0, 1, 2, 3, -1, 1000000000000000] (by decide) (by decide) _ rfl
              have hb9 := (heap_alloc_old W7 (.cells ([0, 1, 2, 3, -1, 1000000000000000].map (Value.int .i64)).toArray 3) _ (Array.getElem?_eq_some_iff.1 hb9).1).trans hb9
              go_wp2_with fail
              refine Calls.mono hp ?_
              clear hp hL
              rintro e W8 ⟨⟨tn, -, rfl⟩, hL, ho⟩
              have hb9 := (ho.2.1 p9 (by omega)).trans hb9
              clear ho
              have hp := hL.pickE hz hl (by omega) [0, 59, 60, 61, -1, 253402300800] (by decide) (by decide) _ rfl
              have hb9 := (heap_alloc_old W8 (.cells ([0, 59, 60, 61, -1, 253402300800].map (Value.int .i64)).toArray 3) _ (Array.getElem?_eq_some_iff.1 hb9).1).trans hb9
              go_wp2_with fail
              refine Calls.mono hp ?_
              clear hp hL
              rintro e W9 ⟨⟨nw, -, rfl⟩, hL, ho⟩
              have hb9 := (ho.2.1 p9 (by omega)).trans hb9
              clear ho
              obtain ⟨b2, c2, rfl, hn2⟩ := hL.2.slice
              obtain ⟨b2', c2', he, hI, -⟩ := hL.2.ints hs2
              simp only [Value.slice.injEq, true_and] at he
              obtain ⟨rfl, rfl⟩ := he
              go_upto_region 32 with fail
              have hbl := hL.2.2.1
              have hpl : p9 < W9.heap.size := (Array.getElem?_eq_some_iff.1 hb9).1
              have d0 : W9.cell? ⟨p9, 0, none⟩ = some (.slice b2 l2.length c2) := cell_block hb9
              have d1 : W9.cell? ⟨p9, 1, none⟩ = some (.int .i64 u2) := cell_block hb9
              have d2 : W9.cell? ⟨p9, 2, none⟩ = some (.int .u64 h2) := cell_block hb9
              have hsz := hL.2.2.2
              clear hL hb9
              go_region_held3 (fun w' => w'.cell? ⟨p9, 0, none⟩ = some (.slice b2 l2.length c2) ∧ w'.cell? ⟨p9, 1, none⟩ = some (.int .i64 u2) ∧ w'.cell? ⟨p9, 2, none⟩ = some (.int .u64 h2) ∧ Below W9.heap.size W9 w' ∧ W9.heap.size ≤ w'.heap.size)
                (first | exact ⟨d0, d1, d2, (Below.refl _ _).drew, Nat.le_refl _⟩ | exact held_tok hpl (by assumption) (by assumption))
                (first
                | (go_at_call 11; refine (Try.checkToken s2 (by omega) l2 b2 c2 u2 h2 tn nw _ (held_ints hI (by assumption)) (by omega)).mono ?_; rintro e w6 ⟨rfl, hb6⟩)
                | (go_at_call 12; refine (Try.tokenFaultF s2 (by omega) l2 b2 c2 u2 h2 tn nw _ (held_ints hI (by assumption)) (by omega) hn2).mono ?_; rintro e w6 ⟨rfl, hb6⟩)
                | (go_at_call 13; refine (Try.caches_calls _).mono ?_; rintro e w6 ⟨rfl, hb6⟩))
              rename_i hH
              obtain ⟨-, -, -, hk, hz9⟩ := hH
              go_wp2_with fail
              go_ret
              exact ⟨rfl, hbl.trans (hk.mono hsz)⟩
end Go.Proofs
