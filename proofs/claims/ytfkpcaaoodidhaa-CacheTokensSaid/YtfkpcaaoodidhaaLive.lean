/- Of the law of tokens: the stream and the row that grows. No condition. -/
import Derived.Test.YtfkpcaaoodidhaaCheckC
namespace Go.Proofs
open Go.RowKit

/-- The stream's box lies in the first new block, and has handed out at most k numbers; v owns the numbers l. -/
def Live (w W : World) (ad : Option Addr) (n cap : Nat) (k : Nat) (v : Value) (l : List Int) : Prop :=
  (∃ a : Int, 0 ≤ a ∧ a ≤ k ∧ Strm W w.heap.size ad n cap a) ∧ OwnI w.heap.size v l w W

theorem OwnI.only {B g : Nat} {v : Value} {l : List Int} {W0 w w' : World} {cs : Array Value} {t : TypeId} {fr : Nat × Nat} (h : OwnI B v l W0 w) (hg : w.heap[g]? = some (.cells cs t fr)) (hne : t ≠ 3) (hB : B ≤ g) (ho : Only g w w') : OwnI B v l W0 w' :=
  ⟨h.1.kept (row := some g) ⟨ho.2.2.os, ho.2.2.tape, ho.2.2.output, ho.2.2.size, fun k _ hk => ho.2.1 k (fun e => hk (by rw [e]))⟩ (.inr (Ne.symm (own_ne h.1 hg hne))),
    h.2.1.trans (ho.2.2.mono hB), by rw [ho.1]; exact h.2.2⟩

theorem Live.own {w W : World} {ad : Option Addr} {n cap k : Nat} {v : Value} {l : List Int} (h : Live w W ad n cap k v l) : OwnI w.heap.size v l w W := h.2

theorem Live.mono {w W : World} {ad : Option Addr} {n cap k k' : Nat} {v : Value} {l : List Int} (h : Live w W ad n cap k v l) (hk : k ≤ k') : Live w W ad n cap k' v l := by
  obtain ⟨⟨a, h1, h2, h3⟩, h4⟩ := h
  exact ⟨⟨a, h1, by omega, h3⟩, h4⟩

theorem Live.alloc {w W : World} {ad : Option Addr} {n cap k : Nat} {v : Value} {l : List Int} (h : Live w W ad n cap k v l) (o : Obj) : Live w (W.alloc o) ad n cap k v l := by
  obtain ⟨⟨a, h1, h2, h3⟩, h4⟩ := h
  exact ⟨⟨a, h1, h2, h3.alloc o⟩, Own.alloc h4 o⟩

theorem Live.later {w W W' : World} {ad : Option Addr} {n cap k : Nat} {v : Value} {l : List Int} (h : Live w W ad n cap k v l) (hb : Below W.heap.size W W') : Live w W' ad n cap k v l := by
  obtain ⟨⟨a, h1, h2, h3⟩, h4⟩ := h
  exact ⟨⟨a, h1, h2, (hb.block _ (Array.getElem?_eq_some_iff.1 h3).1).trans h3⟩, Own.call h4 hb⟩

theorem Live.step {w W W' : World} {ad : Option Addr} {n cap k : Nat} {v : Value} {l : List Int} {a b : Int} (h4 : OwnI w.heap.size v l w W) (hS : Strm W w.heap.size ad n cap a) (hS' : Strm W' w.heap.size ad n cap b) (ho : Only w.heap.size W W') (h0 : 0 ≤ b) (hb : b ≤ k) : Live w W' ad n cap k v l :=
  ⟨⟨b, h0, hb, hS'⟩, h4.only hS (by decide) (Nat.le_refl _) ho⟩

section
variable {w W : World} {ad : Option Addr} {cap k : Nat} {zs : List Int} {v : Value} {l : List Int}

theorem Live.nextC (h : Live w W ad zs.length cap k v l) (hz : IntsAt w w.heap.size ad zs) (hl : zs.length ≤ 9223372036854775807) (hk : k < 1000000) (n : Int) (h1 : 1 ≤ n) (h2 : n ≤ 9223372036854775807) :
    Calls Try.prog 6 #[.pointer (some ⟨w.heap.size, 0, none⟩), .int .i64 n] W fun e w' => (∃ r, 0 ≤ r ∧ r < n ∧ e = .returned (.int .i64 r)) ∧ Live w w' ad zs.length cap (k + 1) v l ∧ Only w.heap.size W w' := by
  obtain ⟨⟨a, ha, hak, hS⟩, hO⟩ := h
  refine (Try.nextW w.heap.size w.heap.size ad zs cap a n W hS (hz.below hO.2.1) (Nat.le_refl _) ha (by omega) h1 h2 hl).mono ?_
  rintro e w' ⟨hr, hS', ho⟩
  exact ⟨hr, Live.step hO hS hS' ho (by omega) (by omega), ho⟩

theorem Live.flipC (h : Live w W ad zs.length cap k v l) (hz : IntsAt w w.heap.size ad zs) (hl : zs.length ≤ 9223372036854775807) (hk : k < 1000000) (n : Int) (h1 : 1 ≤ n) (h2 : n ≤ 9223372036854775807) :
    Calls Try.prog 5 #[.pointer (some ⟨w.heap.size, 0, none⟩), .int .i64 n] W fun e w' => (∃ b, e = .returned (.bool b)) ∧ Live w w' ad zs.length cap (k + 1) v l ∧ Only w.heap.size W w' := by
  have hc := h.nextC hz hl hk n h1 h2
  go_enter Try.func5, Try.ntmps5
  go_wp2_with fail
  refine hc.mono ?_
  rintro e w' ⟨⟨r, _, _, rfl⟩, hL, ho⟩
  go_wp2_with fail
  go_ret
  exact ⟨⟨_, rfl⟩, hL, ho⟩

theorem Live.pickC (h : Live w W ad zs.length cap k v l) (hz : IntsAt w w.heap.size ad zs) (hl : zs.length ≤ 9223372036854775807) (hk : k < 1000000) (b : Nat) (xs : List Int) (hb : b ≠ w.heap.size) (hx : W.heap[b]? = some (.cells (xs.map (Value.int .i64)).toArray 3)) (h1 : 1 ≤ xs.length) (h2 : xs.length ≤ 1000) :
    Calls Try.prog 4 #[.pointer (some ⟨w.heap.size, 0, none⟩), .slice (some ⟨b, 0, none⟩) xs.length xs.length] W fun e w' => (∃ r, r ∈ xs ∧ e = .returned (.int .i64 r)) ∧ Live w w' ad zs.length cap (k + 1) v l ∧ Only w.heap.size W w' := by
  obtain ⟨⟨a, ha, hak, hS⟩, hO⟩ := h
  refine (Try.pick w.heap.size w.heap.size ad zs cap a b xs W hS (hz.below hO.2.1) (Nat.le_refl _) ha (by omega) hl hb hx h1 h2).mono ?_
  rintro e w' ⟨hr, hS', ho⟩
  exact ⟨hr, Live.step hO hS hS' ho (by omega) (by omega), ho⟩

/-- A pick of numbers written out: their block is the newest. -/
theorem Live.pickN (h : Live w W ad zs.length cap k v l) (hz : IntsAt w w.heap.size ad zs) (hl : zs.length ≤ 9223372036854775807) (hk : k < 1000000) (xs : List Int) (h1 : 1 ≤ xs.length) (h2 : xs.length ≤ 1000) :
    Calls Try.prog 4 #[.pointer (some ⟨w.heap.size, 0, none⟩), .slice (some ⟨W.heap.size, 0, none⟩) xs.length xs.length] (W.alloc (.cells (xs.map (Value.int .i64)).toArray 3)) fun e w' => (∃ r, r ∈ xs ∧ e = .returned (.int .i64 r)) ∧ Live w w' ad zs.length cap (k + 1) v l ∧ Only w.heap.size (W.alloc (.cells (xs.map (Value.int .i64)).toArray 3)) w' := by
  have hlt : w.heap.size < W.heap.size := by obtain ⟨⟨a, _, _, hS⟩, _⟩ := h; exact (Array.getElem?_eq_some_iff.1 hS).1
  exact (h.alloc _).pickC hz hl hk W.heap.size xs (by omega) (heap_alloc_new _ _) h1 h2
end
end Go.Proofs
