/- ValueMoments, the steps of its law: value.Date, Unit, Trunc and Months are as specified for all numbers and values. No condition but that the listed variables of Go's library lie as they are laid. -/
import Derived.Test.YtkpligcifakmjaaGreatDoorMonC
import Derived.Test.YtkpligcifakmjaaGreatDoorUnitC
import Derived.Test.YtkpligcifakmjaaGreatDoorTruncA
import Derived.Test.YtkpligcifakmjaaGreatDoorTruncC
import Derived.Test.YtkpligcifakmjaaGreatDoorStrm
import Derived.Deep.RegionHeld3
namespace Go.Proofs
open Go.RowKit

def Turned (g : Nat) (w w' : World) : Prop := w.heap.size ≤ w'.heap.size ∧ (∀ k, k < w.heap.size → k ≠ g → w'.heap[k]? = w.heap[k]?) ∧ Below g w w'

theorem Only.turned {g : Nat} {w w' : World} (h : Only g w w') : Turned g w w' := ⟨by rw [h.1]; exact Nat.le_refl _, fun k _ hk => h.2.1 k hk, h.2.2⟩

/-- In a world of the law: the boxes of the two values, and the stream behind them. -/
def LawAt (w : World) (x n : Val) (ad : Option Addr) (len cap : Nat) (a : Int) (W : World) : Prop := TwoIn w W x n ∧ Strm W (w.heap.size + 2) ad len cap a ∧ w.heap.size + 2 < W.heap.size

theorem LawAt.turn {w W W' : World} {x n : Val} {ad : Option Addr} {len cap : Nat} {a b : Int} (h : LawAt w x n ad len cap a W) (hs : Strm W' (w.heap.size + 2) ad len cap b) (ht : Turned (w.heap.size + 2) W W') : LawAt w x n ad len cap b W' := by
  obtain ⟨⟨h1, h2, h3, h4⟩, h5, h6⟩ := h
  obtain ⟨t1, t2, t3⟩ := ht
  exact ⟨⟨(t2 _ (by omega) (by omega)).trans h1, (t2 _ (by omega) (by omega)).trans h2, h3.trans (t3.mono (by omega)), by omega⟩, hs, by omega⟩

theorem LawAt.call {w W W' : World} {x n : Val} {ad : Option Addr} {len cap : Nat} {a : Int} (h : LawAt w x n ad len cap a W) (hb : Below W.heap.size W W') : LawAt w x n ad len cap a W' := by
  have := hb.size
  exact ⟨h.1.next hb, (hb.block _ h.2.2).trans h.2.1, by have := h.2.2; omega⟩

theorem LawAt.drew {w W : World} {x n : Val} {ad : Option Addr} {len cap : Nat} {a : Int} (h : LawAt w x n ad len cap a W) : LawAt w x n ad len cap a W.drew := ⟨h.1.drew, h.2⟩

theorem LawAt.alloc {w W : World} {x n : Val} {ad : Option Addr} {len cap : Nat} {a : Int} (h : LawAt w x n ad len cap a W) (o : Obj) : LawAt w x n ad len cap a (W.alloc o) := h.call ((Below.refl _ _).alloc (Nat.le_refl _) _)

theorem LawAt.start (w : World) (x n : Val) (ad : Option Addr) (len cap : Nat) : LawAt w x n ad len cap 0 (((w.alloc (.cells #[.int .i64 x.k, .int .i64 x.n, .string x.s] 23)).alloc (.cells #[.int .i64 n.k, .int .i64 n.n, .string n.s] 23)).alloc (.cells #[.slice ad len cap, .int .i64 0] 31)) := by
  have h := TwoIn.start w x n
  have hs : ((w.alloc (.cells #[.int .i64 x.k, .int .i64 x.n, .string x.s] 23)).alloc (.cells #[.int .i64 n.k, .int .i64 n.n, .string n.s] 23)).heap.size = w.heap.size + 2 := by unfold World.alloc; simp
  refine ⟨h.next ((Below.refl _ _).alloc (Nat.le_refl _) _), ?_, ?_⟩
  · unfold Strm; rw [← hs]; exact heap_alloc_new _ _
  · rw [← hs]; unfold World.alloc; simp

theorem LawAt.range {w W : World} {x n : Val} {ad : Option Addr} {zs : List Int} {cap : Nat} {a : Int} (h : LawAt w x n ad zs.length cap a W) (hz : IntsAt w w.heap.size ad zs) (hl : zs.length ≤ 9223372036854775807) (ha : 0 ≤ a ∧ a < 1000) (lo hi : Int) (h1 : -4000000000 ≤ lo) (h2 : lo ≤ hi) (h3 : hi ≤ 4000000000) :
    Calls Tryz.prog 13 #[.pointer (some ⟨w.heap.size + 2, 0, none⟩), .int .i64 lo, .int .i64 hi] W fun e W' => (∃ r, e = .returned (.int .i64 r)) ∧ LawAt w x n ad zs.length cap (a + 1) W' := by
  refine (Tryz.range (w.heap.size + 2) w.heap.size ad zs cap a lo hi W h.2.1 (hz.below h.1.2.2.1) (by omega) ha.1 (by omega) h1 h2 h3 hl).mono ?_
  rintro e W' ⟨⟨r, _, _, rfl⟩, hst, hon⟩
  exact ⟨⟨r, rfl⟩, h.turn hst hon.turned⟩

theorem LawAt.int {w W : World} {x n : Val} {ad : Option Addr} {zs : List Int} {cap : Nat} {a : Int} (h : LawAt w x n ad zs.length cap a W) (hz : IntsAt w w.heap.size ad zs) (hl : zs.length ≤ 9223372036854775807) (ha : 0 ≤ a ∧ a < 1000) :
    Calls Tryz.prog 14 #[.pointer (some ⟨w.heap.size + 2, 0, none⟩)] W fun e W' => (∃ r, e = .returned (.int .i64 r)) ∧ LawAt w x n ad zs.length cap (a + 2) W' := by
  refine (Tryz.intF (w.heap.size + 2) w.heap.size ad zs cap a W h.2.1 (hz.below h.1.2.2.1) (by omega) ha.1 (by omega) hl h.2.2).mono ?_
  rintro e W' ⟨⟨r, _, _, rfl⟩, hst, hsz, hon, hbl⟩
  exact ⟨⟨r, rfl⟩, h.turn hst ⟨hsz, hon, hbl⟩⟩

theorem ints_of {cs : Array Value} (hcs : ∀ v ∈ cs.toList, ∃ z, v = .int .i64 z) : ∃ xs : List Int, cs = (xs.map (Value.int .i64)).toArray := by
  obtain ⟨l⟩ := cs
  simp only at hcs
  induction l with
  | nil => exact ⟨[], rfl⟩
  | cons v l ih =>
    obtain ⟨z, rfl⟩ := hcs v (by simp)
    obtain ⟨xs, h⟩ := ih (fun u hu => hcs u (by simp [hu]))
    refine ⟨z :: xs, ?_⟩
    simp only [List.map_cons]
    have : l = xs.map (Value.int .i64) := by simpa using h
    rw [this]

theorem LawAt.pick {w W : World} {x n : Val} {ad : Option Addr} {zs : List Int} {cap : Nat} {a : Int} (h : LawAt w x n ad zs.length cap a W) (hz : IntsAt w w.heap.size ad zs) (hl : zs.length ≤ 9223372036854775807) (ha : 0 ≤ a ∧ a < 1000) (cs : Array Value) (m : Nat) (hm : cs.size = m) (hm1 : 1 ≤ m ∧ m ≤ 1000) (hcs : ∀ v ∈ cs.toList, ∃ z, v = .int .i64 z) :
    Calls Tryz.prog 12 #[.pointer (some ⟨w.heap.size + 2, 0, none⟩), .slice (some ⟨W.heap.size, 0, none⟩) m m] (W.alloc (.cells cs 3)) fun e W' => (∃ r, e = .returned (.int .i64 r)) ∧ LawAt w x n ad zs.length cap (a + 1) W' := by
  obtain ⟨xs, rfl⟩ := ints_of hcs
  have hx : xs.length = m := by simpa using hm
  subst hx
  have h2 := h.alloc (.cells (xs.map (Value.int .i64)).toArray 3)
  refine (Tryz.pick (w.heap.size + 2) w.heap.size ad zs cap a W.heap.size xs _ h2.2.1 (hz.below h2.1.2.2.1) (by omega) ha.1 (by omega) hl (by have := h.2.2; omega) (heap_alloc_new _ _) hm1.1 hm1.2).mono ?_
  rintro e W' ⟨⟨r, _, rfl⟩, hst, hon⟩
  exact ⟨⟨r, rfl⟩, h2.turn hst hon.turned⟩


theorem one_call {N p : Nat} {w w1 w2 : World} {x0 x1 x2 : Value} (hp : p < N)
    (h : w1.cell? ⟨p, 0, none⟩ = some x0 ∧ w1.cell? ⟨p, 1, none⟩ = some x1 ∧ w1.cell? ⟨p, 2, none⟩ = some x2 ∧ Below N w w1 ∧ N ≤ w1.heap.size) (hb : Below w1.heap.size w1 w2) :
    w2.cell? ⟨p, 0, none⟩ = some x0 ∧ w2.cell? ⟨p, 1, none⟩ = some x1 ∧ w2.cell? ⟨p, 2, none⟩ = some x2 ∧ Below N w w2 ∧ N ≤ w2.heap.size := by
  obtain ⟨h0, h1, h2, hk, hz⟩ := h
  have hs := hb.size
  exact ⟨(hb.cell (Nat.lt_of_lt_of_le hp hz)).trans h0, (hb.cell (Nat.lt_of_lt_of_le hp hz)).trans h1, (hb.cell (Nat.lt_of_lt_of_le hp hz)).trans h2, hk.trans (hb.mono hz), by omega⟩

theorem three_call {N p q r : Nat} {w w1 w2 : World} {x0 x1 x2 y0 y1 y2 z0 z1 z2 : Value} (hp : p < N) (hq : q < N) (hr : r < N)
    (h : w1.cell? ⟨p, 0, none⟩ = some x0 ∧ w1.cell? ⟨p, 1, none⟩ = some x1 ∧ w1.cell? ⟨p, 2, none⟩ = some x2 ∧ w1.cell? ⟨q, 0, none⟩ = some y0 ∧ w1.cell? ⟨q, 1, none⟩ = some y1 ∧ w1.cell? ⟨q, 2, none⟩ = some y2 ∧
      w1.cell? ⟨r, 0, none⟩ = some z0 ∧ w1.cell? ⟨r, 1, none⟩ = some z1 ∧ w1.cell? ⟨r, 2, none⟩ = some z2 ∧ Below N w w1 ∧ N ≤ w1.heap.size) (hb : Below w1.heap.size w1 w2) :
    w2.cell? ⟨p, 0, none⟩ = some x0 ∧ w2.cell? ⟨p, 1, none⟩ = some x1 ∧ w2.cell? ⟨p, 2, none⟩ = some x2 ∧ w2.cell? ⟨q, 0, none⟩ = some y0 ∧ w2.cell? ⟨q, 1, none⟩ = some y1 ∧ w2.cell? ⟨q, 2, none⟩ = some y2 ∧
      w2.cell? ⟨r, 0, none⟩ = some z0 ∧ w2.cell? ⟨r, 1, none⟩ = some z1 ∧ w2.cell? ⟨r, 2, none⟩ = some z2 ∧ Below N w w2 ∧ N ≤ w2.heap.size := by
  obtain ⟨h0, h1, h2, h3, h4, h5, h6, h7, h8, hk, hz⟩ := h
  have hs := hb.size
  have p1 := Nat.lt_of_lt_of_le hp hz
  have q1 := Nat.lt_of_lt_of_le hq hz
  have r1 := Nat.lt_of_lt_of_le hr hz
  exact ⟨(hb.cell p1).trans h0, (hb.cell p1).trans h1, (hb.cell p1).trans h2, (hb.cell q1).trans h3, (hb.cell q1).trans h4, (hb.cell q1).trans h5, (hb.cell r1).trans h6, (hb.cell r1).trans h7, (hb.cell r1).trans h8, hk.trans (hb.mono hz), by omega⟩

theorem guard23 (op : BinOp) (x y : Operand) (a b : Val) (W : World) : (eqGuard op 23 x y a.v b.v).run Tryz.prog W = .ok () W :=
  run_eqGuard_agg W op 23 x y _ _ (by kernel_rfl)

theorem eqIn23 (a b : Val) (W : World) : (Op.equalIn 10000 23 a.v b.v).run Tryz.prog W = .ok ((a.k == b.k) && ((a.n == b.n) && (a.s.toList == b.s.toList))) W := by
  have hf : Tryz.prog.underlying 23 = some (.struct (Tryz.prog.fieldsOf 23)) := by kernel_rfl
  unfold Val.v valV
  rw [show (10000 : Nat) = 9999 + 1 from rfl, run_equalIn_agg W 9999 23 _ _ hf (by kernel_rfl)]
  simp [go_sem, Tryz.underlying23, Tryz.underlying3, Tryz.underlying9]
  by_cases h1 : a.k = b.k <;> by_cases h2 : a.n = b.n <;> by_cases h3 : a.s.toList = b.s.toList <;> simp [h1, h2, h3]

theorem neq23 (a : Val) (W : World) : (binOp .neq 23 a.v a.v).run Tryz.prog W = .ok (.bool false) W := by
  have h := eqIn23 a a W
  unfold Val.v valV at h ⊢
  rw [run_neq_struct, h]
  simp

theorem eql23 (a : Val) (W : World) : (binOp .eql 23 a.v a.v).run Tryz.prog W = .ok (.bool true) W := by
  have h := eqIn23 a a W
  unfold Val.v valV at h ⊢
  rw [run_eql_struct, h]
  simp

end Go.Proofs
