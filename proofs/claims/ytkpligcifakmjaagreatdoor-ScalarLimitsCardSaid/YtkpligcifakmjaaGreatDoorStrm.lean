/- Of package dumbmake: what a stream hands out, and what it turns. No condition. -/
import Derived.Test.YtkpligcifakmjaaGreatDoorOrdM
import Derived.Deep.QuietTactic
import Derived.BigQuiet
namespace Go.Proofs
open Go.RowKit

/-- At the address lie the numbers of a list, all in blocks below N. -/
def IntsAt (w : World) (N : Nat) (ad : Option Addr) (l : List Int) : Prop :=
  ∀ i (h : i < l.length), ∃ p o, ad = some ⟨p, o, none⟩ ∧ p < N ∧ w.cell? ⟨p, o + i, none⟩ = some (.int .i64 l[i]) ∧ -9223372036854775808 ≤ l[i] ∧ l[i] ≤ 9223372036854775807

theorem IntsAt.below {w w' : World} {N : Nat} {ad : Option Addr} {l : List Int} (h : IntsAt w N ad l) (hb : Below N w w') : IntsAt w' N ad l := by
  intro i hi
  obtain ⟨p, o, h1, h2, h3, h4⟩ := h i hi
  exact ⟨p, o, h1, h2, (hb.cell h2).trans h3, h4⟩

/-- In block g lies a stream that has handed out 'a' numbers. -/
def Strm (w : World) (g : Nat) (ad : Option Addr) (n cap : Nat) (a : Int) : Prop := w.heap[g]? = some (.cells #[.slice ad n cap, .int .i64 a] 31)

/-- Nothing but block g has turned. -/
def Only (g : Nat) (w w' : World) : Prop := w'.heap.size = w.heap.size ∧ (∀ k, k ≠ g → w'.heap[k]? = w.heap[k]?) ∧ Below g w w'

theorem Only.refl (g : Nat) (w : World) : Only g w w := ⟨rfl, fun _ _ => rfl, Below.refl _ _⟩

theorem Only.trans {g : Nat} {w w1 w2 : World} (h : Only g w w1) (h2 : Only g w1 w2) : Only g w w2 :=
  ⟨h2.1.trans h.1, fun k hk => (h2.2.1 k hk).trans (h.2.1 k hk), h.2.2.trans h2.2.2⟩

theorem Only.drew {g : Nat} {w w1 : World} (h : Only g w w1) : Only g w w1.drew := ⟨h.1, h.2.1, h.2.2.drew⟩

theorem Only.set {g i : Nat} {v : Value} {w w1 : World} (h : Only g w w1) : Only g w (w1.setCell ⟨g, i, none⟩ v) :=
  ⟨size_set.trans h.1, fun k hk => (block_set_ne (Ne.symm hk)).trans (h.2.1 k hk), Below.setCell h.2.2 (Nat.le_refl _) _⟩

def belowV (x n : Int) : Int := if n < 1 then 0 else if x.tmod n < 0 then x.tmod n + n else x.tmod n

theorem belowV_range (x n : Int) (h : 1 ≤ n) : 0 ≤ belowV x n ∧ belowV x n < n := by
  have hr1 := Int.lt_tmod_of_pos x (show 0 < n by omega)
  have hr2 := Int.tmod_lt_of_pos x (show 0 < n by omega)
  unfold belowV
  rw [if_neg (by omega)]
  split <;> omega

/-- What the stream hands out behind 'a' numbers. -/
def nextV (zs : List Int) (a n : Int) : Int :=
  if zs.length = 0 then belowV ((a + 1) * 7919) n else belowV (belowV (zs.getD (a % zs.length).toNat 0) 1073741824 + a / zs.length * (7919 + a % zs.length)) n

theorem nextV_range (zs : List Int) (a n : Int) (h : 1 ≤ n) : 0 ≤ nextV zs a n ∧ nextV zs a n < n := by
  unfold nextV
  split <;> exact belowV_range _ _ h

theorem Tryz.belowF (x n : Int) (h1 : 1 ≤ n) (h2 : n ≤ 9223372036854775807) (w : World) : Calls Tryz.prog 103 #[.int .i64 x, .int .i64 n] w fun e w' => e = .returned (.int .i64 (belowV x n)) ∧ w' = w := by
  have hr1 := Int.lt_tmod_of_pos x (show 0 < n by omega)
  have hr2 := Int.tmod_lt_of_pos x (show 0 < n by omega)
  go_enter Tryz.func103, Tryz.ntmps103
  go_wp2
  all_goals
    go_ret
    refine ⟨congrArg (fun z => Ending.returned (.int .i64 z)) ?_, rfl⟩
    show _ = belowV x n
    unfold belowV
    rw [if_neg (by omega)]
    split <;> first | rfl | omega

theorem belowDrewN {N n : Nat} {w W : World} (h : Below N w W) : Below N w (W.drewN n) := ⟨h.1, h.2, h.3, h.4, h.5⟩

theorem Only.drewN {g n : Nat} {w W : World} (h : Only g w W) : Only g w (W.drewN n) := ⟨h.1, h.2.1, belowDrewN h.2.2⟩

theorem Strm.alloc {w : World} {g : Nat} {ad : Option Addr} {n cap : Nat} {a : Int} (h : Strm w g ad n cap a) (o : Obj) : Strm (w.alloc o) g ad n cap a :=
  (heap_alloc_old w o (Array.getElem?_eq_some_iff.1 h).1).trans h

theorem alloc_size (w : World) (o : Obj) : (w.alloc o).heap.size = w.heap.size + 1 := by unfold World.alloc; simp

set_option maxRecDepth 20000 in
theorem Tryz.next (g N : Nat) (ad : Option Addr) (zs : List Int) (cap : Nat) (a n : Int) (w : World) (hs : Strm w g ad zs.length cap a) (hz : IntsAt w N ad zs) (hN : N ≤ g) (ha : 0 ≤ a) (ha2 : a < 1000000) (h1 : 1 ≤ n) (h2 : n ≤ 9223372036854775807) (hl : zs.length ≤ 9223372036854775807) :
    Calls Tryz.prog 52 #[.pointer (some ⟨g, 0, none⟩), .int .i64 n] w fun e w' => e = .returned (.int .i64 (nextV zs a n)) ∧ Strm w' g ad zs.length cap (a + 1) ∧ Only g w w' := by
  have c0 : w.cell? ⟨g, 0, none⟩ = some (.slice ad zs.length cap) := by simp [World.cell?, show w.heap[g]? = _ from hs]
  have c1 : w.cell? ⟨g, 1, none⟩ = some (.int .i64 a) := by simp [World.cell?, show w.heap[g]? = _ from hs]
  have f1 : w.frozen? ⟨g, 1, none⟩ = false := by simp [World.frozen?, show w.heap[g]? = _ from hs]
  have hS : Strm (w.setCell ⟨g, 1, none⟩ (.int .i64 (a + 1))) g ad zs.length cap (a + 1) := block_set hs
  by_cases hz0 : zs.length = 0
  · go_enter Tryz.func52, Tryz.ntmps52
    go_wp2_with (first
      | (go_at_call 103; refine (Tryz.belowF _ _ h1 h2 _).mono ?_; rintro e w2 ⟨rfl, rfl⟩))
    go_ret
    exact ⟨by unfold nextV; rw [if_pos hz0]; rfl, hS, (Only.refl g w).set⟩
  · have hlen : (0 : Int) < zs.length := by omega
    obtain ⟨q, hq⟩ : ∃ q : Nat, a / (zs.length : Int) = q := ⟨_, (Int.toNat_of_nonneg (Int.ediv_nonneg ha (by omega))).symm⟩
    obtain ⟨k, hk⟩ : ∃ k : Nat, a % (zs.length : Int) = k := ⟨_, (Int.toNat_of_nonneg (Int.emod_nonneg a (by omega))).symm⟩
    have hdm := Int.mul_ediv_add_emod a zs.length
    rw [hq, hk] at hdm
    have hkl : k < zs.length := by have := Int.emod_lt_of_pos a hlen; omega
    have hql : 0 ≤ (zs.length : Int) * q := Int.mul_nonneg (by omega) (by omega)
    have hqk : (q : Int) * k ≤ (zs.length : Int) * q := by
      rw [Int.mul_comm (zs.length : Int)]
      exact Int.mul_le_mul_of_nonneg_left (by omega) (by omega)
    have hq1 : (q : Int) ≤ (zs.length : Int) * q := by
      have := Int.mul_le_mul_of_nonneg_right (show (1 : Int) ≤ zs.length by omega) (show (0 : Int) ≤ q by omega)
      omega
    have hqk0 : 0 ≤ (q : Int) * k := Int.mul_nonneg (by omega) (by omega)
    have hprod : 0 ≤ (q : Int) * (7919 + k) ∧ (q : Int) * (7919 + k) ≤ 10000000000 := by
      rw [Int.mul_add]
      omega
    have e1 : a.tmod zs.length = k := by rw [Int.tmod_eq_emod_of_nonneg ha, hk]
    have e2 : a.tdiv zs.length = q := by rw [Int.tdiv_eq_ediv_of_nonneg ha, hq]
    have hnv : nextV zs a n = belowV (belowV zs[k] 1073741824 + q * (7919 + k)) n := by
      unfold nextV
      rw [if_neg hz0, hq, hk]
      simp [List.getD, hkl]
    obtain ⟨hr1, hr2⟩ := belowV_range zs[k] 1073741824 (by omega)
    have hq6 : (q : Int) ≤ 1000000 := by omega
    have hk6 : (k : Int) ≤ 1000000 := by omega
    clear hdm hq hk hql hqk hqk0 hq1
    go_enter Tryz.func52, Tryz.ntmps52
    go_upto_region 4 with fail
    have c0' : (w.setCell ⟨g, 1, none⟩ (.int .i64 (a + 1))).cell? ⟨g, 0, none⟩ = some (.slice ad zs.length cap) := by simp [World.cell?, show (w.setCell ⟨g, 1, none⟩ (.int .i64 (a + 1))).heap[g]? = _ from hS]
    have c1' : (w.setCell ⟨g, 1, none⟩ (.int .i64 (a + 1))).cell? ⟨g, 1, none⟩ = some (.int .i64 (a + 1)) := by simp [World.cell?, show (w.setCell ⟨g, 1, none⟩ (.int .i64 (a + 1))).heap[g]? = _ from hS]
    have hO : Only g w (w.setCell ⟨g, 1, none⟩ (.int .i64 (a + 1))) := (Only.refl g w).set
    obtain ⟨p, o, rfl, hp, cz, hz1, hz2⟩ := hz.below (hO.2.2.mono hN) k hkl
    generalize w.setCell ⟨g, 1, none⟩ (.int .i64 (a + 1)) = W at hS c0' c1' hO cz ⊢
    clear c0 c1 f1 hs
    go_quiet (fail)
    go_upto_region 5 with fail
    go_quiet (fail)
    go_wp2_with (first
      | (go_at_call 103; refine (Tryz.belowF _ _ (by omega) (by omega) _).mono ?_; rintro e w2 ⟨rfl, rfl⟩))
    go_ret
    exact ⟨congrArg (fun z => Ending.returned (.int .i64 z)) hnv.symm, hS, hO.drewN⟩

theorem Tryz.nextW (g N : Nat) (ad : Option Addr) (zs : List Int) (cap : Nat) (a n : Int) (w : World) (hs : Strm w g ad zs.length cap a) (hz : IntsAt w N ad zs) (hN : N ≤ g) (ha : 0 ≤ a) (ha2 : a < 1000000) (h1 : 1 ≤ n) (h2 : n ≤ 9223372036854775807) (hl : zs.length ≤ 9223372036854775807) :
    Calls Tryz.prog 52 #[.pointer (some ⟨g, 0, none⟩), .int .i64 n] w fun e w' => (∃ r, 0 ≤ r ∧ r < n ∧ e = .returned (.int .i64 r)) ∧ Strm w' g ad zs.length cap (a + 1) ∧ Only g w w' := by
  refine (Tryz.next g N ad zs cap a n w hs hz hN ha ha2 h1 h2 hl).mono ?_
  rintro e w' ⟨rfl, h3, h4⟩
  obtain ⟨hr1, hr2⟩ := nextV_range zs a n h1
  exact ⟨⟨_, hr1, hr2, rfl⟩, h3, h4⟩

theorem Tryz.range (g N : Nat) (ad : Option Addr) (zs : List Int) (cap : Nat) (a lo hi : Int) (w : World) (hs : Strm w g ad zs.length cap a) (hz : IntsAt w N ad zs) (hN : N ≤ g) (ha : 0 ≤ a) (ha2 : a < 1000000) (h1 : -4000000000 ≤ lo) (h2 : lo ≤ hi) (h3 : hi ≤ 4000000000) (hl : zs.length ≤ 9223372036854775807) :
    Calls Tryz.prog 13 #[.pointer (some ⟨g, 0, none⟩), .int .i64 lo, .int .i64 hi] w fun e w' => (∃ r, lo ≤ r ∧ r ≤ hi ∧ e = .returned (.int .i64 r)) ∧ Strm w' g ad zs.length cap (a + 1) ∧ Only g w w' := by
  have hn : ¬ hi < lo := by omega
  go_enter Tryz.func13, Tryz.ntmps13
  go_wp2_with (first
    | (go_at_call 52; refine (Tryz.nextW g N ad zs cap a _ _ hs hz hN ha ha2 (by omega) (by omega) hl).mono ?_; rintro e w2 ⟨⟨r, hr1, hr2, rfl⟩, hst, hon⟩))
  go_ret
  exact ⟨⟨lo + r, by omega, by omega, rfl⟩, hst, hon⟩

theorem Tryz.pick (g N : Nat) (ad : Option Addr) (zs : List Int) (cap : Nat) (a : Int) (b : Nat) (xs : List Int) (w : World) (hs : Strm w g ad zs.length cap a) (hz : IntsAt w N ad zs) (hN : N ≤ g) (ha : 0 ≤ a) (ha2 : a < 1000000) (hl : zs.length ≤ 9223372036854775807)
    (hb : b ≠ g) (hx : w.heap[b]? = some (.cells (xs.map (Value.int .i64)).toArray 3)) (h1 : 1 ≤ xs.length) (h2 : xs.length ≤ 1000) :
    Calls Tryz.prog 12 #[.pointer (some ⟨g, 0, none⟩), .slice (some ⟨b, 0, none⟩) xs.length xs.length] w fun e w' => (∃ r, r ∈ xs ∧ e = .returned (.int .i64 r)) ∧ Strm w' g ad zs.length cap (a + 1) ∧ Only g w w' := by
  go_enter Tryz.func12, Tryz.ntmps12
  go_wp2_with (first
    | (go_at_call 52; refine (Tryz.nextW g N ad zs cap a _ _ hs hz hN ha ha2 (by omega) (by omega) hl).mono ?_; rintro e w2 ⟨⟨r, hr1, hr2, rfl⟩, hst, hon⟩; obtain ⟨k, rfl⟩ := Int.eq_ofNat_of_zero_le hr1; have hk : k < xs.length := (by omega); have hc : w2.cell? ⟨b, k, none⟩ = some (.int .i64 xs[k]) := (by simp [World.cell?, (hon.2.1 b hb).trans hx, hk])))
  go_ret
  exact ⟨⟨xs[k], List.getElem_mem hk, rfl⟩, hst, hon⟩

set_option maxRecDepth 20000 in
theorem Tryz.intF (g N : Nat) (ad : Option Addr) (zs : List Int) (cap : Nat) (a : Int) (w : World) (hs : Strm w g ad zs.length cap a) (hz : IntsAt w N ad zs) (hN : N ≤ g) (ha : 0 ≤ a) (ha2 : a < 100000) (hl : zs.length ≤ 9223372036854775807) (hg : g < w.heap.size) :
    Calls Tryz.prog 14 #[.pointer (some ⟨g, 0, none⟩)] w fun e w' => (∃ r, -9223372036854775808 ≤ r ∧ r ≤ 9223372036854775807 ∧ e = .returned (.int .i64 r)) ∧ Strm w' g ad zs.length cap (a + 2) ∧ w.heap.size ≤ w'.heap.size ∧ (∀ k, k < w.heap.size → k ≠ g → w'.heap[k]? = w.heap[k]?) ∧ Below g w w' := by
  go_enter Tryz.func14, Tryz.ntmps14
  go_wp2_with (first
    | (go_at_call 52; refine (Tryz.nextW g N ad zs cap a _ _ hs hz hN ha (by omega) (by omega) (by omega) hl).mono ?_; rintro e w2 ⟨⟨r, hr1, hr2, rfl⟩, hst, hon⟩)
    | (go_at_call 13; refine (Tryz.range g N ad zs cap (a + 1) _ _ _ hst (hz.below (hon.2.2.mono hN)) hN (by omega) (by omega) (by omega) (by omega) (by omega) hl).mono ?_; rintro e w3 ⟨⟨q, hq1, hq2, rfl⟩, hst3, hon3⟩)
    | (go_at_call 12; refine (Tryz.pick g N ad zs cap (a + 1) w2.heap.size [999999999999999, -999999999999999, 1000000000000000, -1000000000000000, 4611686018427387904, -9223372036854775808, 9223372036854775807, 253402300799, 253402300800] _ (hst.alloc _) (hz.below ((hon.2.2.mono hN).alloc (by have := hon.1; omega) _)) hN (by omega) (by omega) hl (by have := hon.1; omega) (heap_alloc_new _ _) (by decide) (by decide)).mono ?_; rintro e w4 ⟨⟨q, hq, rfl⟩, hst4, hon4⟩))
  · have hst5 : Strm w4 g ad zs.length cap (a + 2) := by rw [show a + 2 = a + 1 + 1 by omega]; exact hst4
    have hs4 := hon4.1
    rw [alloc_size] at hs4
    have hs1 := hon.1
    go_ret
    refine ⟨⟨q, ?_, ?_, rfl⟩, hst5, by omega, fun k hk hkg => ?_, (hon.2.2.alloc (by omega) _).trans hon4.2.2⟩
    · simp only [List.mem_cons, List.mem_nil_iff, or_false] at hq; omega
    · simp only [List.mem_cons, List.mem_nil_iff, or_false] at hq; omega
    · rw [hon4.2.1 k hkg, heap_alloc_old w2 _ (by omega), hon.2.1 k hkg]
  all_goals
    have hst5 : Strm w3 g ad zs.length cap (a + 2) := by rw [show a + 2 = a + 1 + 1 by omega]; exact hst3
    have hs3 := hon3.1
    have hs1 := hon.1
    go_ret
    exact ⟨⟨q, by omega, by omega, rfl⟩, hst5, by omega, fun k _ hkg => (hon3.2.1 k hkg).trans (hon.2.1 k hkg), hon.2.2.trans hon3.2.2⟩

end Go.Proofs
