/- Of package dumbmake: streams, draws, rows that a call owns. No condition. -/
import Derived.Test.YtpmjkpdkkckoaaaGreatDoorProg
import Derived.Tactics
import Derived.Tactics2
import Derived.Below
import Derived.ProofKit
import Derived.Deep.RegionHeld3
import Derived.OpenShut
import Derived.StillTailTactics
import Derived.Laws.Cover1
import Derived.Deep.CutRange
import Derived.Deep.RegionWith
import Derived.Deep.QuietTactic
import Derived.BigQuiet
import Derived.Laws.OwnMore
import Derived.Lib.AppendStr
import Derived.OwnWalkIn
namespace Go.Proofs
open Go.RowKit

theorem mixed_tryz : Tryz.prog.follows .mixedOrders = true := by kernel_rfl

theorem ex_alloc_size (w : World) (o : Obj) : (w.alloc o).heap.size = w.heap.size + 1 := by unfold World.alloc; simp
theorem heap_alloc_old (w : World) (o : Obj) {k : Nat} (h : k < w.heap.size) : (w.alloc o).heap[k]? = w.heap[k]? := by
  unfold World.alloc
  simp only [Array.getElem?_push]
  rw [if_neg (by omega)]
theorem heap_alloc_new' (w : World) (o : Obj) : (w.alloc o).heap[w.heap.size]? = some o := by unfold World.alloc; simp
theorem below_next {w W w2 : World} (h : Below w.heap.size w W) (hb : Below W.heap.size W w2) : Below w.heap.size w w2 := h.trans (hb.mono h.size)

theorem heap_kept {w w' : World} (hb : Below w.heap.size w w') {b : Nat} {o : Obj} (h : w.heap[b]? = some o) : w'.heap[b]? = some o :=
  (hb.block b (Array.getElem?_eq_some_iff.mp h).1).trans h

theorem cell_kept {w w' : World} (hb : Below w.heap.size w w') {p o : Nat} {v : Value} (h : w.cell? ⟨p, o, none⟩ = some v) : w'.cell? ⟨p, o, none⟩ = some v := by
  have hlt : p < w.heap.size := by
    cases hp : w.heap[p]? with
    | none => simp [World.cell?, hp] at h
    | some o => exact (Array.getElem?_eq_some_iff.mp hp).1
  exact (hb.cell hlt).trans h

theorem below_set {N k i : Nat} {v : Value} {w w' : World} (h : Below N w w') (hk : N ≤ k) : Below N w (w'.setCell ⟨k, i, none⟩ v) := Below.setCell h hk _

/-- wpStill, shut: the walk does not look through it. -/
structure Still (P : Program) (ops : Array Oper) (w : World) (Q : Act → Prop) (l : List Oper) (a : Act) : Prop where
  out : wpStill P ops w Q l a

theorem Still.nil {P : Program} {ops : Array Oper} {w : World} {Q : Act → Prop} {a : Act} (h : Q a) : Still P ops w Q [] a := ⟨h⟩

theorem Still.step {P : Program} {ops : Array Oper} {w : World} {Q : Act → Prop} {a : Act} {o : Oper} {rest : List Oper} (h : ∀ K : Act → Prop, (∀ a, Still P ops w Q rest a → K a) → if Region.wanted o (yielded ops a.tmps) then o.still P a w K else K (a.put o.dst undef)) : Still P ops w Q (o :: rest) a :=
  ⟨h _ fun _ h => h.out⟩

/-- What follows the reads is hidden while they are walked. -/
theorem still_via {P : Program} {ops : Array Oper} {w : World} {Q : Act → Prop} {a : Act} {l : List Oper} (h : ∀ K : Act → Prop, (∀ a', Q a' → K a') → Still P ops w K l a) : wpStill P ops w Q l a := (h Q fun _ h => h).out

end Go.Proofs

namespace Go.Proofs
open Go.RowKit

theorem block_set {W : World} {g i : Nat} {v : Value} {cs : Array Value} {t : TypeId} {fr : Nat × Nat} (h : W.heap[g]? = some (.cells cs t fr)) : (W.setCell ⟨g, i, none⟩ v).heap[g]? = some (.cells (cs.setIfInBounds i v) t fr) := by
  simp [World.setCell, Array.getElem?_modify, h]

theorem block_set_ne {W : World} {g g' i : Nat} {v : Value} (h : g ≠ g') : (W.setCell ⟨g, i, none⟩ v).heap[g']? = W.heap[g']? := by
  simp [World.setCell, Array.getElem?_modify, h]

theorem size_set {W : World} {a : Addr} {v : Value} : (W.setCell a v).heap.size = W.heap.size := by
  simp [World.setCell]

/-- At the address lie the numbers of a list, all in blocks below N. -/
def IntsAt (w : World) (N : Nat) (ad : Option Addr) (l : List Int) : Prop :=
  ∀ i (h : i < l.length), ∃ p o, ad = some ⟨p, o, none⟩ ∧ p < N ∧ w.cell? ⟨p, o + i, none⟩ = some (.int .i64 l[i]) ∧ -9223372036854775808 ≤ l[i] ∧ l[i] ≤ 9223372036854775807

theorem IntsAt.below {w w' : World} {N : Nat} {ad : Option Addr} {l : List Int} (h : IntsAt w N ad l) (hb : Below N w w') : IntsAt w' N ad l := by
  intro i hi
  obtain ⟨p, o, h1, h2, h3, h4⟩ := h i hi
  exact ⟨p, o, h1, h2, (hb.cell h2).trans h3, h4⟩

/-- In block g lies a stream that has handed out 'a' numbers. -/
def Strm (w : World) (g : Nat) (ad : Option Addr) (n cap : Nat) (a : Int) : Prop := w.heap[g]? = some (.cells #[.slice ad n cap, .int .i64 a] 25)

/-- Nothing but block g has turned. -/
def Only (g : Nat) (w w' : World) : Prop := w'.heap.size = w.heap.size ∧ (∀ k, k ≠ g → w'.heap[k]? = w.heap[k]?) ∧ Below g w w'

theorem Only.refl (g : Nat) (w : World) : Only g w w := ⟨rfl, fun _ _ => rfl, Below.refl _ _⟩

theorem Only.trans {g : Nat} {w w1 w2 : World} (h : Only g w w1) (h2 : Only g w1 w2) : Only g w w2 :=
  ⟨h2.1.trans h.1, fun k hk => (h2.2.1 k hk).trans (h.2.1 k hk), h.2.2.trans h2.2.2⟩

theorem Only.drew {g : Nat} {w w1 : World} (h : Only g w w1) : Only g w w1.drew := ⟨h.1, h.2.1, h.2.2.drew⟩

theorem Only.set {g i : Nat} {v : Value} {w w1 : World} (h : Only g w w1) : Only g w (w1.setCell ⟨g, i, none⟩ v) :=
  ⟨size_set.trans h.1, fun k hk => (block_set_ne (Ne.symm hk)).trans (h.2.1 k hk), Below.setCell h.2.2 (Nat.le_refl _) _⟩

def belowV (x n : Int) : Int := if n < 1 then 0 else if x.tmod n < 0 then x.tmod n + n else x.tmod n

theorem belowV_range (x n : Int) (h : 1 ≤ n) : 0 ≤ belowV x n ∧ belowV x n < n := by
  have hr1 := Int.lt_tmod_of_pos x (show 0 < n by omega)
  have hr2 := Int.tmod_lt_of_pos x (show 0 < n by omega)
  unfold belowV
  rw [if_neg (by omega)]
  split <;> omega

/-- What the stream hands out behind 'a' numbers. -/
def nextV (zs : List Int) (a n : Int) : Int :=
  if zs.length = 0 then belowV ((a + 1) * 7919) n else belowV (belowV (zs.getD (a % zs.length).toNat 0) 1073741824 + a / zs.length * (7919 + a % zs.length)) n

theorem nextV_range (zs : List Int) (a n : Int) (h : 1 ≤ n) : 0 ≤ nextV zs a n ∧ nextV zs a n < n := by
  unfold nextV
  split <;> exact belowV_range _ _ h

theorem Tryz.belowF (x n : Int) (h1 : 1 ≤ n) (h2 : n ≤ 9223372036854775807) (w : World) : Calls Tryz.prog 13 #[.int .i64 x, .int .i64 n] w fun e w' => e = .returned (.int .i64 (belowV x n)) ∧ w' = w := by
  have hr1 := Int.lt_tmod_of_pos x (show 0 < n by omega)
  have hr2 := Int.tmod_lt_of_pos x (show 0 < n by omega)
  go_enter Tryz.func13, Tryz.ntmps13
  go_wp2
  all_goals
    go_ret
    refine ⟨congrArg (fun z => Ending.returned (.int .i64 z)) ?_, rfl⟩
    show _ = belowV x n
    unfold belowV
    rw [if_neg (by omega)]
    split <;> first | rfl | omega

theorem belowDrewN {N n : Nat} {w W : World} (h : Below N w W) : Below N w (W.drewN n) := ⟨h.1, h.2, h.3, h.4, h.5⟩

theorem Only.drewN {g n : Nat} {w W : World} (h : Only g w W) : Only g w (W.drewN n) := ⟨h.1, h.2.1, belowDrewN h.2.2⟩

theorem Strm.alloc {w : World} {g : Nat} {ad : Option Addr} {n cap : Nat} {a : Int} (h : Strm w g ad n cap a) (o : Obj) : Strm (w.alloc o) g ad n cap a :=
  (heap_alloc_old w o (Array.getElem?_eq_some_iff.1 h).1).trans h

theorem alloc_size (w : World) (o : Obj) : (w.alloc o).heap.size = w.heap.size + 1 := by unfold World.alloc; simp

set_option maxRecDepth 20000 in
theorem Tryz.next (g N : Nat) (ad : Option Addr) (zs : List Int) (cap : Nat) (a n : Int) (w : World) (hs : Strm w g ad zs.length cap a) (hz : IntsAt w N ad zs) (hN : N ≤ g) (ha : 0 ≤ a) (ha2 : a < 1000000) (h1 : 1 ≤ n) (h2 : n ≤ 9223372036854775807) (hl : zs.length ≤ 9223372036854775807) :
    Calls Tryz.prog 7 #[.pointer (some ⟨g, 0, none⟩), .int .i64 n] w fun e w' => e = .returned (.int .i64 (nextV zs a n)) ∧ Strm w' g ad zs.length cap (a + 1) ∧ Only g w w' := by
  have c0 : w.cell? ⟨g, 0, none⟩ = some (.slice ad zs.length cap) := by simp [World.cell?, show w.heap[g]? = _ from hs]
  have c1 : w.cell? ⟨g, 1, none⟩ = some (.int .i64 a) := by simp [World.cell?, show w.heap[g]? = _ from hs]
  have f1 : w.frozen? ⟨g, 1, none⟩ = false := by simp [World.frozen?, show w.heap[g]? = _ from hs]
  have hS : Strm (w.setCell ⟨g, 1, none⟩ (.int .i64 (a + 1))) g ad zs.length cap (a + 1) := block_set hs
  by_cases hz0 : zs.length = 0
  · go_enter Tryz.func7, Tryz.ntmps7
    go_wp2_with (first
      | (go_at_call 13; refine (Tryz.belowF _ _ h1 h2 _).mono ?_; rintro e w2 ⟨rfl, rfl⟩))
    go_ret
    exact ⟨by unfold nextV; rw [if_pos hz0]; rfl, hS, (Only.refl g w).set⟩
  · have hlen : (0 : Int) < zs.length := by omega
    obtain ⟨q, hq⟩ : ∃ q : Nat, a / (zs.length : Int) = q := ⟨_, (Int.toNat_of_nonneg (Int.ediv_nonneg ha (by omega))).symm⟩
    obtain ⟨k, hk⟩ : ∃ k : Nat, a % (zs.length : Int) = k := ⟨_, (Int.toNat_of_nonneg (Int.emod_nonneg a (by omega))).symm⟩
    have hdm := Int.mul_ediv_add_emod a zs.length
    rw [hq, hk] at hdm
    have hkl : k < zs.length := by have := Int.emod_lt_of_pos a hlen; omega
    have hql : 0 ≤ (zs.length : Int) * q := Int.mul_nonneg (by omega) (by omega)
    have hqk : (q : Int) * k ≤ (zs.length : Int) * q := by
      rw [Int.mul_comm (zs.length : Int)]
      exact Int.mul_le_mul_of_nonneg_left (by omega) (by omega)
    have hq1 : (q : Int) ≤ (zs.length : Int) * q := by
      have := Int.mul_le_mul_of_nonneg_right (show (1 : Int) ≤ zs.length by omega) (show (0 : Int) ≤ q by omega)
      omega
    have hqk0 : 0 ≤ (q : Int) * k := Int.mul_nonneg (by omega) (by omega)
    have hprod : 0 ≤ (q : Int) * (7919 + k) ∧ (q : Int) * (7919 + k) ≤ 10000000000 := by
      rw [Int.mul_add]
      omega
    have e1 : a.tmod zs.length = k := by rw [Int.tmod_eq_emod_of_nonneg ha, hk]
    have e2 : a.tdiv zs.length = q := by rw [Int.tdiv_eq_ediv_of_nonneg ha, hq]
    have hnv : nextV zs a n = belowV (belowV zs[k] 1073741824 + q * (7919 + k)) n := by
      unfold nextV
      rw [if_neg hz0, hq, hk]
      simp [List.getD, hkl]
    obtain ⟨hr1, hr2⟩ := belowV_range zs[k] 1073741824 (by omega)
    have hq6 : (q : Int) ≤ 1000000 := by omega
    have hk6 : (k : Int) ≤ 1000000 := by omega
    clear hdm hq hk hql hqk hqk0 hq1
    go_enter Tryz.func7, Tryz.ntmps7
    go_upto_region 4 with fail
    have c0' : (w.setCell ⟨g, 1, none⟩ (.int .i64 (a + 1))).cell? ⟨g, 0, none⟩ = some (.slice ad zs.length cap) := by simp [World.cell?, show (w.setCell ⟨g, 1, none⟩ (.int .i64 (a + 1))).heap[g]? = _ from hS]
    have c1' : (w.setCell ⟨g, 1, none⟩ (.int .i64 (a + 1))).cell? ⟨g, 1, none⟩ = some (.int .i64 (a + 1)) := by simp [World.cell?, show (w.setCell ⟨g, 1, none⟩ (.int .i64 (a + 1))).heap[g]? = _ from hS]
    have hO : Only g w (w.setCell ⟨g, 1, none⟩ (.int .i64 (a + 1))) := (Only.refl g w).set
    obtain ⟨p, o, rfl, hp, cz, hz1, hz2⟩ := hz.below (hO.2.2.mono hN) k hkl
    generalize w.setCell ⟨g, 1, none⟩ (.int .i64 (a + 1)) = W at hS c0' c1' hO cz ⊢
    clear c0 c1 f1 hs
    go_quiet (fail)
    go_upto_region 5 with fail
    go_quiet (fail)
    go_wp2_with (first
      | (go_at_call 13; refine (Tryz.belowF _ _ (by omega) (by omega) _).mono ?_; rintro e w2 ⟨rfl, rfl⟩))
    go_ret
    exact ⟨congrArg (fun z => Ending.returned (.int .i64 z)) hnv.symm, hS, hO.drewN⟩

theorem Tryz.nextW (g N : Nat) (ad : Option Addr) (zs : List Int) (cap : Nat) (a n : Int) (w : World) (hs : Strm w g ad zs.length cap a) (hz : IntsAt w N ad zs) (hN : N ≤ g) (ha : 0 ≤ a) (ha2 : a < 1000000) (h1 : 1 ≤ n) (h2 : n ≤ 9223372036854775807) (hl : zs.length ≤ 9223372036854775807) :
    Calls Tryz.prog 7 #[.pointer (some ⟨g, 0, none⟩), .int .i64 n] w fun e w' => (∃ r, 0 ≤ r ∧ r < n ∧ e = .returned (.int .i64 r)) ∧ Strm w' g ad zs.length cap (a + 1) ∧ Only g w w' := by
  refine (Tryz.next g N ad zs cap a n w hs hz hN ha ha2 h1 h2 hl).mono ?_
  rintro e w' ⟨rfl, h3, h4⟩
  obtain ⟨hr1, hr2⟩ := nextV_range zs a n h1
  exact ⟨⟨_, hr1, hr2, rfl⟩, h3, h4⟩

theorem Tryz.range (g N : Nat) (ad : Option Addr) (zs : List Int) (cap : Nat) (a lo hi : Int) (w : World) (hs : Strm w g ad zs.length cap a) (hz : IntsAt w N ad zs) (hN : N ≤ g) (ha : 0 ≤ a) (ha2 : a < 1000000) (h1 : -4000000000 ≤ lo) (h2 : lo ≤ hi) (h3 : hi ≤ 4000000000) (hl : zs.length ≤ 9223372036854775807) :
    Calls Tryz.prog 6 #[.pointer (some ⟨g, 0, none⟩), .int .i64 lo, .int .i64 hi] w fun e w' => (∃ r, lo ≤ r ∧ r ≤ hi ∧ e = .returned (.int .i64 r)) ∧ Strm w' g ad zs.length cap (a + 1) ∧ Only g w w' := by
  have hn : ¬ hi < lo := by omega
  go_enter Tryz.func6, Tryz.ntmps6
  go_wp2_with (first
    | (go_at_call 7; refine (Tryz.nextW g N ad zs cap a _ _ hs hz hN ha ha2 (by omega) (by omega) hl).mono ?_; rintro e w2 ⟨⟨r, hr1, hr2, rfl⟩, hst, hon⟩))
  go_ret
  exact ⟨⟨lo + r, by omega, by omega, rfl⟩, hst, hon⟩

theorem blk_lt {W : World} {g : Nat} {o : Obj} (h : W.heap[g]? = some o) : g < W.heap.size := (Array.getElem?_eq_some_iff.1 h).1

/-- A stream lies in block g; it has handed out 'a' numbers. -/
structure Live (w : World) (g N : Nat) (ad : Option Addr) (zs : List Int) (cap : Nat) (a : Int) : Prop where
  st : Strm w g ad zs.length cap a
  ints : IntsAt w N ad zs
  le : N ≤ g
  len : zs.length ≤ 9223372036854775807
  pos : 0 ≤ a

/-- Of what was there nothing but block g has turned. -/
structure Turns (g : Nat) (w w' : World) : Prop where
  size : w.heap.size ≤ w'.heap.size
  same : ∀ k, k < w.heap.size → k ≠ g → w'.heap[k]? = w.heap[k]?
  below : Below g w w'

theorem Turns.refl (g : Nat) (w : World) : Turns g w w := ⟨Nat.le_refl _, fun _ _ _ => rfl, Below.refl _ _⟩

theorem Turns.trans {g : Nat} {w w1 w2 : World} (h : Turns g w w1) (h2 : Turns g w1 w2) : Turns g w w2 :=
  ⟨Nat.le_trans h.size h2.size, fun k hk hg => (h2.same k (Nat.lt_of_lt_of_le hk h.size) hg).trans (h.same k hk hg), h.below.trans h2.below⟩

theorem Only.turns {g : Nat} {w w1 : World} (h : Only g w w1) : Turns g w w1 := ⟨Nat.le_of_eq h.1.symm, fun k _ hg => h.2.1 k hg, h.2.2⟩

theorem Turns.of {g : Nat} {w w1 : World} (h : Below w.heap.size w w1) (hg : g ≤ w.heap.size) : Turns g w w1 := ⟨h.size, fun k hk _ => h.block k hk, h.mono hg⟩

theorem Turns.new {g : Nat} {w : World} (o : Obj) (hg : g ≤ w.heap.size) : Turns g w (w.alloc o) := Turns.of ((Below.refl _ _).alloc (Nat.le_refl _) _) hg

theorem Turns.drew {g : Nat} {w w1 : World} (h : Turns g w w1) : Turns g w w1.drew := ⟨h.size, h.same, h.below.drew⟩

theorem Turns.drewN {g n : Nat} {w w1 : World} (h : Turns g w w1) : Turns g w (w1.drewN n) := ⟨h.size, h.same, belowDrewN h.below⟩

theorem Turns.block {g k : Nat} {w w1 : World} {o : Obj} (h : Turns g w w1) (hk : w.heap[k]? = some o) (hg : k ≠ g) : w1.heap[k]? = some o := (h.same k (blk_lt hk) hg).trans hk

theorem Live.lt {w : World} {g N : Nat} {ad : Option Addr} {zs : List Int} {cap : Nat} {a : Int} (h : Live w g N ad zs cap a) : g < w.heap.size := blk_lt h.st

theorem Live.turn {w w' : World} {g N : Nat} {ad : Option Addr} {zs : List Int} {cap : Nat} {a b : Int} (h : Live w g N ad zs cap a) (ht : Turns g w w') (hs : Strm w' g ad zs.length cap b) (hb : 0 ≤ b) : Live w' g N ad zs cap b :=
  ⟨hs, h.ints.below (ht.below.mono h.le), h.le, h.len, hb⟩

theorem Live.call {w w' : World} {g N : Nat} {ad : Option Addr} {zs : List Int} {cap : Nat} {a : Int} (h : Live w g N ad zs cap a) (hb : Below w.heap.size w w') : Live w' g N ad zs cap a :=
  h.turn (Turns.of hb (Nat.le_of_lt h.lt)) ((hb.block _ h.lt).trans h.st) h.pos

theorem Live.alloc {w : World} {g N : Nat} {ad : Option Addr} {zs : List Int} {cap : Nat} {a : Int} (h : Live w g N ad zs cap a) (o : Obj) : Live (w.alloc o) g N ad zs cap a :=
  h.call ((Below.refl _ _).alloc (Nat.le_refl _) _)

theorem Live.drew {w : World} {g N : Nat} {ad : Option Addr} {zs : List Int} {cap : Nat} {a : Int} (h : Live w g N ad zs cap a) : Live w.drew g N ad zs cap a :=
  h.call (Below.refl _ _).drew

theorem Live.set {w : World} {g N k i : Nat} {v : Value} {ad : Option Addr} {zs : List Int} {cap : Nat} {a : Int} (h : Live w g N ad zs cap a) (hk : g < k) : Live (w.setCell ⟨k, i, none⟩ v) g N ad zs cap a := by
  refine ⟨(block_set_ne (by omega)).trans h.st, h.ints.below ((Below.refl _ _).setCell (by show N ≤ k; have := h.le; omega) _), h.le, h.len, h.pos⟩

theorem Tryz.nextL {w : World} {g N : Nat} {ad : Option Addr} {zs : List Int} {cap : Nat} {a : Int} (h : Live w g N ad zs cap a) (ha : a < 1000000) (n : Int) (h1 : 1 ≤ n) (h2 : n ≤ 9223372036854775807) :
    Calls Tryz.prog 7 #[.pointer (some ⟨g, 0, none⟩), .int .i64 n] w fun e w' => ∃ r, 0 ≤ r ∧ r < n ∧ e = .returned (.int .i64 r) ∧ Live w' g N ad zs cap (a + 1) ∧ Turns g w w' := by
  refine (Tryz.nextW g N ad zs cap a n w h.st h.ints h.le h.pos ha h1 h2 h.len).mono ?_
  rintro e w' ⟨⟨r, h3, h4, rfl⟩, h5, h6⟩
  exact ⟨r, h3, h4, rfl, h.turn h6.turns h5 (by have := h.pos; omega), h6.turns⟩

theorem Tryz.rangeL {w : World} {g N : Nat} {ad : Option Addr} {zs : List Int} {cap : Nat} {a : Int} (h : Live w g N ad zs cap a) (ha : a < 1000000) (lo hi : Int) (h1 : -4000000000 ≤ lo) (h2 : lo ≤ hi) (h3 : hi ≤ 4000000000) :
    Calls Tryz.prog 6 #[.pointer (some ⟨g, 0, none⟩), .int .i64 lo, .int .i64 hi] w fun e w' => ∃ r, lo ≤ r ∧ r ≤ hi ∧ e = .returned (.int .i64 r) ∧ Live w' g N ad zs cap (a + 1) ∧ Turns g w w' := by
  refine (Tryz.range g N ad zs cap a lo hi w h.st h.ints h.le h.pos ha h1 h2 h3 h.len).mono ?_
  rintro e w' ⟨⟨r, h3, h4, rfl⟩, h5, h6⟩
  exact ⟨r, h3, h4, rfl, h.turn h6.turns h5 (by have := h.pos; omega), h6.turns⟩


end Go.Proofs

namespace Go.Proofs
open Go.RowKit

/-! ### A row that a call owns -/

/-- In w the slice v owns n elements, the cells xs, in a block from B on; of what lay below B in W0 nothing has turned. -/
def Own (B : Nat) (e : TypeId) (sz : Nat) (v : Value) (n : Nat) (xs : List Value) (W0 w : World) : Prop :=
  w.ownsRow B e sz v n xs ∧ Below B W0 w ∧ B ≤ w.heap.size

section
variable {B : Nat} {e : TypeId} {sz : Nat} {v : Value} {n : Nat} {xs : List Value} {W0 w : World}

theorem Own.start (W0 : World) (e : TypeId) (sz : Nat) : Own W0.heap.size e sz (.slice none 0 0) 0 [] W0 W0 := ⟨World.ownsRow_nil _ _ _ _, Below.refl _ _, Nat.le_refl _⟩

theorem own_lt (h : w.ownsRow B e sz v n xs) : ∀ k, v.ownBlock = some k → B ≤ k ∧ k < w.heap.size := by
  intro k hk
  rcases h.2 with ⟨rfl, _⟩ | ⟨g, cap, cur, rfl, hb, hg, _⟩
  · simp [Value.ownBlock] at hk
  · simp [Value.ownBlock] at hk
    subst hk
    exact ⟨hb, (Array.getElem?_eq_some_iff.1 hg).1⟩

theorem own_ne (h : w.ownsRow B e sz v n xs) {g : Nat} {cs : Array Value} {t : TypeId} {fr : Nat × Nat} (hg : w.heap[g]? = some (.cells cs t fr)) (hne : t ≠ e) : some g ≠ v.ownBlock := by
  rcases h.2 with ⟨rfl, _⟩ | ⟨g', cap, cur, rfl, hb, hgg, _⟩
  · simp [Value.ownBlock]
  · simp only [Value.ownBlock, ne_eq, Option.some.injEq]
    rintro rfl
    rw [hgg] at hg
    simp only [Option.some.injEq, Obj.cells.injEq] at hg
    exact hne hg.2.1.symm

theorem grown_of_below {w' : World} (h : Below w.heap.size w w') (row : Option Nat) : w.grownBy w' row := ⟨h.os, h.tape, h.output, h.size, fun i hi _ => h.block i hi⟩

theorem Own.call {w' : World} (h : Own B e sz v n xs W0 w) (hb : Below w.heap.size w w') : Own B e sz v n xs W0 w' :=
  ⟨h.1.kept (grown_of_below hb none) (by cases hv : v.ownBlock <;> simp), h.2.1.trans (hb.mono h.2.2), Nat.le_trans h.2.2 hb.size⟩

theorem Own.alloc (h : Own B e sz v n xs W0 w) (o : Obj) : Own B e sz v n xs W0 (w.alloc o) := h.call ((Below.refl _ _).alloc (Nat.le_refl _) o)

theorem Own.drew (h : Own B e sz v n xs W0 w) : Own B e sz v n xs W0 w.drew := h.call (Below.refl _ _).drew

theorem Own.set (h : Own B e sz v n xs W0 w) {g : Nat} {cs : Array Value} {t : TypeId} {fr : Nat × Nat} (hg : w.heap[g]? = some (.cells cs t fr)) (hne : t ≠ e) (hB : B ≤ g) (i : Nat) (x : Value) : Own B e sz v n xs W0 (w.setCell ⟨g, i, none⟩ x) :=
  ⟨h.1.kept (row := some g) ⟨rfl, rfl, rfl, by simp [World.setCell], fun k _ hk => Below.heap_setCell w _ x k (fun e => hk (by rw [e]))⟩ (.inr (Ne.symm (own_ne h.1 hg hne))),
    h.2.1.setCell hB x, by simpa [World.setCell] using h.2.2⟩

/-- Blocks of another type are as they were. -/
def Boxes (t : TypeId) (w w' : World) : Prop := w.heap.size ≤ w'.heap.size ∧ ∀ (g : Nat) (cs : Array Value) (fr : Nat × Nat), w.heap[g]? = some (Obj.cells cs t fr) → w'.heap[g]? = some (Obj.cells cs t fr)

theorem Own.grown {w' : World} {v' : Value} {n' : Nat} {xs' : List Value} (h : Own B e sz v n xs W0 w) (ho : w'.ownsRow B e sz v' n' xs') (hg : w.grownBy w' v.ownBlock) : Own B e sz v' n' xs' W0 w' :=
  ⟨ho, h.2.1.grown hg h.2.2 (fun k hk => (own_lt h.1 k hk).1), Nat.le_trans h.2.2 hg.size⟩

theorem Own.boxes {w' : World} (h : Own B e sz v n xs W0 w) (hg : w.grownBy w' v.ownBlock) {t : TypeId} (hne : t ≠ e) : Boxes t w w' :=
  ⟨hg.size, fun g _cs _fr hh => (hg.block g (Array.getElem?_eq_some_iff.1 hh).1 (own_ne h.1 hh hne)).trans hh⟩

end


theorem info_parts {P : Program} {t : TypeId} {z : Option Value} {s b : Nat} (h : (P.info? t).map (fun i => (i.zero, i.size, i.bytes)) = some (z, s, b)) : ∃ i, P.info? t = some i ∧ i.zero = z ∧ i.size = s ∧ i.bytes = b := by
  cases hi : P.info? t with
  | none => rw [hi] at h; simp at h
  | some i => rw [hi] at h; simp at h; exact ⟨i, rfl, h.1, h.2.1, h.2.2⟩

/-- A row of numbers that a call owns. -/
def OwnI (B : Nat) (v : Value) (l : List Int) (W0 w : World) : Prop := Own B 3 1 v l.length (l.map (Value.int .i64)) W0 w

/-! ### Draws -/

theorem Tryz.pick (g N : Nat) (ad : Option Addr) (zs : List Int) (cap : Nat) (a : Int) (b : Nat) (xs : List Int) (w : World) (hs : Strm w g ad zs.length cap a) (hz : IntsAt w N ad zs) (hN : N ≤ g) (ha : 0 ≤ a) (ha2 : a < 1000000) (hl : zs.length ≤ 9223372036854775807)
    (hb : b ≠ g) (hx : w.heap[b]? = some (.cells (xs.map (Value.int .i64)).toArray 3)) (h1 : 1 ≤ xs.length) (h2 : xs.length ≤ 1000) :
    Calls Tryz.prog 4 #[.pointer (some ⟨g, 0, none⟩), .slice (some ⟨b, 0, none⟩) xs.length xs.length] w fun e w' => (∃ r, r ∈ xs ∧ e = .returned (.int .i64 r)) ∧ Strm w' g ad zs.length cap (a + 1) ∧ Only g w w' := by
  go_enter Tryz.func4, Tryz.ntmps4
  go_wp2_with (first
    | (go_at_call 7; refine (Tryz.nextW g N ad zs cap a _ _ hs hz hN ha ha2 (by omega) (by omega) hl).mono ?_; rintro e w2 ⟨⟨r, hr1, hr2, rfl⟩, hst, hon⟩; obtain ⟨k, rfl⟩ := Int.eq_ofNat_of_zero_le hr1; have hk : k < xs.length := (by omega); have hc : w2.cell? ⟨b, k, none⟩ = some (.int .i64 xs[k]) := (by simp [World.cell?, (hon.2.1 b hb).trans hx, hk])))
  go_ret
  exact ⟨⟨xs[k], List.getElem_mem hk, rfl⟩, hst, hon⟩

theorem Tryz.pickL {w : World} {g N : Nat} {ad : Option Addr} {zs : List Int} {cap : Nat} {a : Int} (h : Live w g N ad zs cap a) (ha : a < 1000000) (xs : List Int) (h1 : 1 ≤ xs.length) (h2 : xs.length ≤ 1000) :
    Calls Tryz.prog 4 #[.pointer (some ⟨g, 0, none⟩), .slice (some ⟨w.heap.size, 0, none⟩) xs.length xs.length] (w.alloc (.cells (xs.map (Value.int .i64)).toArray 3)) fun e w' => ∃ r, r ∈ xs ∧ e = .returned (.int .i64 r) ∧ Live w' g N ad zs cap (a + 1) ∧ Turns g w w' := by
  have hg := h.lt
  have h' := h.alloc (.cells (xs.map (Value.int .i64)).toArray 3)
  refine (Tryz.pick g N ad zs cap a w.heap.size xs _ h'.st h'.ints h.le h.pos ha h.len (by omega) (heap_alloc_new' _ _) h1 h2).mono ?_
  rintro e w' ⟨⟨r, h3, rfl⟩, h5, h6⟩
  exact ⟨r, h3, rfl, h'.turn h6.turns h5 (by have := h.pos; omega), (Turns.new _ (Nat.le_of_lt hg)).trans h6.turns⟩

theorem Tryz.flipL {w : World} {g N : Nat} {ad : Option Addr} {zs : List Int} {cap : Nat} {a : Int} (h : Live w g N ad zs cap a) (ha : a < 1000000) (n : Int) (h1 : 1 ≤ n) (h2 : n ≤ 9223372036854775807) :
    Calls Tryz.prog 5 #[.pointer (some ⟨g, 0, none⟩), .int .i64 n] w fun e w' => ∃ b, e = .returned (.bool b) ∧ Live w' g N ad zs cap (a + 1) ∧ Turns g w w' := by
  have hc := Tryz.nextL h ha n h1 h2
  go_enter Tryz.func5, Tryz.ntmps5
  go_wp2_with fail
  refine hc.mono ?_
  rintro e w' ⟨r, _, _, rfl, hL, ho⟩
  go_wp2_with fail
  go_ret
  exact ⟨_, rfl, hL, ho⟩

/-- A row of numbers stands when a stream is drawn from. -/
theorem OwnI.turns {B g : Nat} {v : Value} {l : List Int} {W0 w w' : World} {cs : Array Value} {t : TypeId} {fr : Nat × Nat} (h : OwnI B v l W0 w) (hg : w.heap[g]? = some (.cells cs t fr)) (hne : t ≠ 3) (hB : B ≤ g) (ho : Turns g w w') : OwnI B v l W0 w' :=
  ⟨h.1.kept (row := some g) ⟨ho.below.os, ho.below.tape, ho.below.output, ho.size, fun k hk hkg => ho.same k hk (fun e => hkg (by rw [e]))⟩ (.inr (Ne.symm (own_ne h.1 hg hne))),
    h.2.1.trans (ho.below.mono hB), Nat.le_trans h.2.2 ho.size⟩

theorem OwnI.start (W0 : World) : OwnI W0.heap.size (.slice none 0 0) [] W0 W0 := Own.start W0 3 1

end Go.Proofs
