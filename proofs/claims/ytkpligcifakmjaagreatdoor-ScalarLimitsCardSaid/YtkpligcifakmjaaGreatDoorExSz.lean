/- Expressions as trees, how they lie in the heap, how many parts they have. No condition. -/
import Derived.Test.YtkpligcifakmjaaGreatDoorBuf
import Derived.Test.YtkpligcifakmjaaGreatDoorStrm
import Derived.Test.YtkpligcifakmjaaGreatDoorChecked
import Derived.Below
import Derived.ProofKit
import Derived.Deep.RegionHeld3
import Derived.OpenShut
import Derived.StillTailTactics
import Derived.Laws.Cover1
import Derived.Deep.CutRange
import Derived.Deep.RegionWith
import Derived.Deep.QuietTactic
import Derived.BigQuiet
import Derived.IntWalk
import Derived.RegionTactic
namespace Go.Proofs
open Go.RowKit

structure Node where
  k : Int
  op : Int
  n : Int
  vk : Int
  vn : Int
  vs : ByteArray
  src : ByteArray
  name : ByteArray
  dist : Bool

inductive Ex where
  | mk (x : Node) (args : List Ex)

def Ex.node : Ex → Node
  | .mk x _ => x
def Ex.args : Ex → List Ex
  | .mk _ l => l

def Node.cells (x : Node) (a : Value) : Array Value :=
  #[.int .i64 x.k, .int .i64 x.op, .int .i64 x.n, .int .i64 x.vk, .int .i64 x.vn, .string x.vs, .string x.src, .string x.name, .bool x.dist, a, .slice none 0 0, .slice none 0 0, .slice none 0 0]

/-- The value of a part, with its list of parts. -/
def Node.v (x : Node) (a : Value) : Value := .agg (x.cells a)

/-- From place o of block p on lie the cells of a part. -/
structure CellsAt (w : World) (p o : Nat) (x : Node) (a : Value) : Prop where
  c0 : w.cell? ⟨p, o, none⟩ = some (.int .i64 x.k)
  c1 : w.cell? ⟨p, o + 1, none⟩ = some (.int .i64 x.op)
  c2 : w.cell? ⟨p, o + 2, none⟩ = some (.int .i64 x.n)
  c3 : w.cell? ⟨p, o + 3, none⟩ = some (.int .i64 x.vk)
  c4 : w.cell? ⟨p, o + 4, none⟩ = some (.int .i64 x.vn)
  c5 : w.cell? ⟨p, o + 5, none⟩ = some (.string x.vs)
  c6 : w.cell? ⟨p, o + 6, none⟩ = some (.string x.src)
  c7 : w.cell? ⟨p, o + 7, none⟩ = some (.string x.name)
  c8 : w.cell? ⟨p, o + 8, none⟩ = some (.bool x.dist)
  c9 : w.cell? ⟨p, o + 9, none⟩ = some a
  c10 : w.cell? ⟨p, o + 10, none⟩ = some (.slice none 0 0)
  c11 : w.cell? ⟨p, o + 11, none⟩ = some (.slice none 0 0)
  c12 : w.cell? ⟨p, o + 12, none⟩ = some (.slice none 0 0)

theorem CellsAt.of {w w' : World} {p o : Nat} {x : Node} {a : Value} (h : CellsAt w p o x a) (hb : w'.heap[p]? = w.heap[p]?) : CellsAt w' p o x a := by
  have e (j : Nat) : w'.cell? ⟨p, j, none⟩ = w.cell? ⟨p, j, none⟩ := World.cell?_of_block hb
  exact ⟨(e _).trans h.c0, (e _).trans h.c1, (e _).trans h.c2, (e _).trans h.c3, (e _).trans h.c4, (e _).trans h.c5, (e _).trans h.c6, (e _).trans h.c7, (e _).trans h.c8, (e _).trans h.c9, (e _).trans h.c10, (e _).trans h.c11, (e _).trans h.c12⟩

/-- What the texts of a part may be long. -/
structure Node.ok (x : Node) : Prop where
  vs : x.vs.size ≤ 1000000
  src : x.src.size ≤ 1000000
  name : x.name.size ≤ 1000000

/-- The value of a tree whose parts lie at an address. -/
def Ex.v (e : Ex) (ad : Option Addr) (cap : Nat) : Value := e.node.v (.slice ad e.args.length cap)

/-- At the address lie the parts of a tree of at most d levels; they all lie in blocks below N. -/
def ExIs : Nat → World → Nat → Option Addr → Nat → Ex → Prop
  | 0, _, _, _, _, _ => False
  | d + 1, w, N, ad, cap, e => e.node.ok ∧ e.args.length ≤ 1000000 ∧ e.args.length ≤ cap ∧
      ∀ i (h : i < e.args.length), ∃ p o bd bc, ad = some ⟨p, o, none⟩ ∧ p < N ∧ CellsAt w p (o + i * 13) e.args[i].node (.slice bd e.args[i].args.length bc) ∧ ExIs d w N bd bc e.args[i]

theorem ExIs.blocks : ∀ {d : Nat} {w w' : World} {N M : Nat} {ad : Option Addr} {cap : Nat} {e : Ex}, ExIs d w N ad cap e → (∀ k, k < N → w'.heap[k]? = w.heap[k]?) → N ≤ M → ExIs d w' M ad cap e
  | 0, _, _, _, _, _, _, _, h, _, _ => h.elim
  | d + 1, w, w', N, M, ad, cap, e, h, hb, hM => by
    obtain ⟨h1, h2, h3, h4⟩ := h
    refine ⟨h1, h2, h3, fun i hi => ?_⟩
    obtain ⟨p, o, bd, bc, g1, g2, g3, g4⟩ := h4 i hi
    exact ⟨p, o, bd, bc, g1, Nat.lt_of_lt_of_le g2 hM, g3.of (hb p g2), ExIs.blocks g4 hb hM⟩

theorem ExIs.below {d : Nat} {w w' : World} {N : Nat} {ad : Option Addr} {cap : Nat} {e : Ex} (h : ExIs d w N ad cap e) (hb : Below N w w') : ExIs d w' N ad cap e := h.blocks (fun k hk => hb.block k hk) (Nat.le_refl _)

theorem ExIs.later {d : Nat} {w w' : World} {N M : Nat} {ad : Option Addr} {cap : Nat} {e : Ex} (h : ExIs d w N ad cap e) (hb : Below N w w') (hM : N ≤ M) : ExIs d w' M ad cap e := h.blocks (fun k hk => hb.block k hk) hM

theorem ExIs.more : ∀ {d : Nat} {w : World} {N : Nat} {ad : Option Addr} {cap : Nat} {e : Ex}, ExIs d w N ad cap e → ExIs (d + 1) w N ad cap e
  | 0, _, _, _, _, _, h => h.elim
  | d + 1, w, N, ad, cap, e, h => by
    obtain ⟨h1, h2, h3, h4⟩ := h
    refine ⟨h1, h2, h3, fun i hi => ?_⟩
    obtain ⟨p, o, bd, bc, g1, g2, g3, g4⟩ := h4 i hi
    exact ⟨p, o, bd, bc, g1, g2, g3, ExIs.more g4⟩

theorem ExIs.upto {d d' : Nat} {w : World} {N : Nat} {ad : Option Addr} {cap : Nat} {e : Ex} (h : ExIs d w N ad cap e) (hd : d ≤ d') : ExIs d' w N ad cap e := by
  induction hd with
  | refl => exact h
  | step _ ih => exact ih.more

/-! How many parts there are. -/

mutual
def sizesT : Ex → Nat → Nat → Bool × Nat
  | .mk _ l, d, p => if 400 < p + 1 ∨ 24 < d then (false, p + 1) else sizesL l (d + 1) (p + 1)
def sizesL : List Ex → Nat → Nat → Bool × Nat
  | [], _, p => (true, p)
  | a :: l, d, p => if (sizesT a d p).1 then sizesL l d (sizesT a d p).2 else (false, (sizesT a d p).2)
end

mutual
def countT : Ex → Nat
  | .mk _ l => countL l + 1
def countL : List Ex → Nat
  | [] => 0
  | a :: l => countT a + countL l
end

mutual
def deepT : Ex → Nat
  | .mk _ l => deepL l + 1
def deepL : List Ex → Nat
  | [] => 0
  | a :: l => max (deepT a) (deepL l)
end

/-- What is small by the one count is small by the other. -/
theorem sizes_law : ∀ n : Nat, (∀ e : Ex, countT e ≤ n → ∀ d p, ((sizesT e d p).1 = true ↔ p + countT e ≤ 400 ∧ d + deepT e ≤ 25) ∧ ((sizesT e d p).1 = true → (sizesT e d p).2 = p + countT e)) ∧
    (∀ l : List Ex, countL l ≤ n → ∀ d p, p ≤ 400 → ((sizesL l d p).1 = true ↔ p + countL l ≤ 400 ∧ (l = [] ∨ d + deepL l ≤ 25)) ∧ ((sizesL l d p).1 = true → (sizesL l d p).2 = p + countL l)) := by
  intro n
  induction n with
  | zero =>
    refine ⟨fun e he => ?_, fun l hl => ?_⟩
    · cases e; unfold countT at he; omega
    · cases l with
      | nil => intro d p hp; simp [sizesL, countL, hp]
      | cons a l => cases a; unfold countL countT at hl; omega
  | succ n ih =>
    have hT : ∀ e : Ex, countT e ≤ n + 1 → ∀ d p, ((sizesT e d p).1 = true ↔ p + countT e ≤ 400 ∧ d + deepT e ≤ 25) ∧ ((sizesT e d p).1 = true → (sizesT e d p).2 = p + countT e) := by
      intro e he d p
      obtain ⟨x, l⟩ := e
      unfold sizesT countT deepT
      unfold countT at he
      split
      · rename_i h
        refine ⟨⟨fun h1 => (by cases h1), fun h1 => ?_⟩, fun h1 => (by cases h1)⟩
        omega
      · rename_i h
        obtain ⟨g1, g2⟩ := ih.2 l (by omega) (d + 1) (p + 1) (by omega)
        refine ⟨g1.trans ⟨fun h1 => ?_, fun h1 => ?_⟩, fun h1 => ?_⟩
        · rcases h1.2 with rfl | h2
          · unfold countL deepL at *; omega
          · omega
        · exact ⟨by omega, .inr (by omega)⟩
        · rw [g2 h1]; omega
    refine ⟨hT, fun l => ?_⟩
    induction l with
    | nil => intro _ d p hp; simp [sizesL, countL, hp]
    | cons a l ihl =>
      intro hl d p hp
      unfold countL at hl
      unfold sizesL countL deepL
      obtain ⟨a1, a2⟩ := hT a (by omega) d p
      have hca : 1 ≤ countT a := by cases a; unfold countT; omega
      cases hs : (sizesT a d p).1 with
      | false =>
        rw [hs] at a1
        simp only [Bool.false_eq_true, if_false, false_iff, not_and, false_implies, and_true, List.cons_ne_nil, false_or] at a1 ⊢
        intro h1
        have := a1 (by omega)
        omega
      | true =>
        rw [hs] at a1
        have b1 := a1.1 rfl
        have b2 := a2 hs
        rw [if_pos rfl, b2]
        obtain ⟨g1, g2⟩ := ihl (by omega) d (p + countT a) (by omega)
        refine ⟨g1.trans ⟨fun h1 => ⟨by omega, .inr ?_⟩, fun h1 => ⟨by omega, .inr ?_⟩⟩, fun h1 => ?_⟩
        · rcases h1.2 with rfl | h2
          · unfold deepL; omega
          · omega
        · rcases h1.2 with h2 | h2
          · cases h2
          · omega
        · rw [g2 h1]; omega

/-! A part in a block of its own. -/

def Box (w : World) (g : Nat) (x : Node) (a : Value) : Prop := w.heap[g]? = some (.cells (x.cells a) 57)

theorem Box.at {w : World} {g : Nat} {x : Node} {a : Value} (h : Box w g x a) (i : Nat) : w.cell? ⟨g, i, none⟩ = (x.cells a)[i]? := by
  simp [World.cell?, show w.heap[g]? = _ from h]

theorem Box.froz {w : World} {g : Nat} {x : Node} {a : Value} (h : Box w g x a) (i : Nat) : w.frozen? ⟨g, i, none⟩ = false := by
  simp [World.frozen?, show w.heap[g]? = _ from h]

structure BoxIs (w : World) (g : Nat) (x : Node) (a : Value) : Prop where
  c0 : w.cell? ⟨g, 0, none⟩ = some (.int .i64 x.k)
  c1 : w.cell? ⟨g, 1, none⟩ = some (.int .i64 x.op)
  c2 : w.cell? ⟨g, 2, none⟩ = some (.int .i64 x.n)
  c3 : w.cell? ⟨g, 3, none⟩ = some (.int .i64 x.vk)
  c4 : w.cell? ⟨g, 4, none⟩ = some (.int .i64 x.vn)
  c5 : w.cell? ⟨g, 5, none⟩ = some (.string x.vs)
  c6 : w.cell? ⟨g, 6, none⟩ = some (.string x.src)
  c7 : w.cell? ⟨g, 7, none⟩ = some (.string x.name)
  c8 : w.cell? ⟨g, 8, none⟩ = some (.bool x.dist)
  c9 : w.cell? ⟨g, 9, none⟩ = some a
  c10 : w.cell? ⟨g, 10, none⟩ = some (.slice none 0 0)
  c11 : w.cell? ⟨g, 11, none⟩ = some (.slice none 0 0)
  c12 : w.cell? ⟨g, 12, none⟩ = some (.slice none 0 0)

theorem Box.is {w : World} {g : Nat} {x : Node} {a : Value} (h : Box w g x a) : BoxIs w g x a :=
  ⟨h.at 0, h.at 1, h.at 2, h.at 3, h.at 4, h.at 5, h.at 6, h.at 7, h.at 8, h.at 9, h.at 10, h.at 11, h.at 12⟩

theorem Box.new (w : World) (x : Node) (a : Value) : Box (w.alloc (.cells (x.cells a) 57)) w.heap.size x a := by
  unfold Box World.alloc; simp

theorem Box.kept {w w' : World} {g N : Nat} {x : Node} {a : Value} (h : Box w g x a) (hb : ∀ k, k < N → w'.heap[k]? = w.heap[k]?) (hg : g < N) : Box w' g x a := (hb g hg).trans h

theorem ex_alloc_size (w : World) (o : Obj) : (w.alloc o).heap.size = w.heap.size + 1 := by unfold World.alloc; simp

/-- Behind a call made beside a fresh box. -/
theorem Box.call {w w' : World} {x : Node} {a : Value} (hb : Below (w.alloc (.cells (x.cells a) 57)).heap.size (w.alloc (.cells (x.cells a) 57)) w') :
    Box w' w.heap.size x a ∧ w.heap.size < w'.heap.size ∧ Below w.heap.size w w' := by
  have hn := ex_alloc_size w (.cells (x.cells a) 57)
  have hs := hb.size
  refine ⟨(hb.block _ (by omega)).trans (Box.new w x a), by omega, ?_⟩
  have h1 : Below w.heap.size w (w.alloc (.cells (x.cells a) 57)) := (Below.refl _ _).alloc (Nat.le_refl _) _
  exact h1.trans (hb.mono (by omega))

end Go.Proofs

namespace Go.Proofs
open Go.RowKit

/-- Nothing but block g has turned; new blocks may have come. -/
structure But (g : Nat) (w w' : World) : Prop where
  os : w'.os = w.os
  tape : w'.tape = w.tape
  output : w'.output = w.output
  size : w.heap.size ≤ w'.heap.size
  block : ∀ k, k < w.heap.size → k ≠ g → w'.heap[k]? = w.heap[k]?

theorem But.refl (g : Nat) (w : World) : But g w w := ⟨rfl, rfl, rfl, Nat.le_refl _, fun _ _ _ => rfl⟩
theorem But.trans {g : Nat} {a b c : World} (h : But g a b) (k : But g b c) : But g a c :=
  ⟨k.os.trans h.os, k.tape.trans h.tape, k.output.trans h.output, Nat.le_trans h.size k.size, fun i hi hg => (k.block i (Nat.lt_of_lt_of_le hi h.size) hg).trans (h.block i hi hg)⟩
theorem But.of {g : Nat} {w w' : World} (h : Below w.heap.size w w') : But g w w' := ⟨h.os, h.tape, h.output, h.size, fun k hk _ => h.block k hk⟩
theorem But.alloc {g : Nat} {a w : World} (h : But g a w) (o : Obj) : But g a (w.alloc o) := h.trans (.of ((Below.refl _ _).alloc (Nat.le_refl _) o))
theorem But.set {g i : Nat} {a w : World} (h : But g a w) (v : Value) : But g a (w.setCell ⟨g, i, none⟩ v) :=
  h.trans ⟨rfl, rfl, rfl, by simp [World.setCell], fun k _ hk => Below.heap_setCell _ _ _ _ hk⟩
theorem But.below {g N : Nat} {w w' : World} (h : But g w w') (hN : N ≤ g) (hs : N ≤ w.heap.size) : Below N w w' :=
  ⟨h.os, h.tape, h.output, h.size, fun k hk => h.block k (by omega) (by omega)⟩

theorem sizesL_step {l : List Ex} {k d q : Nat} (hk : k < l.length) : sizesL (l.drop k) d q = if (sizesT l[k] d q).1 then sizesL (l.drop (k + 1)) d (sizesT l[k] d q).2 else (false, (sizesT l[k] d q).2) := by
  rw [List.drop_eq_getElem_cons hk]
  rfl

theorem sizesT_eq (e : Ex) (d p : Nat) : sizesT e d p = if 400 < p + 1 ∨ 24 < d then (false, p + 1) else sizesL e.args (d + 1) (p + 1) := by
  cases e; rfl

mutual
theorem sizesT_lo : ∀ (e : Ex) (d q : Nat), q ≤ 400 → (sizesT e d q).2 ≤ 401 ∧ ((sizesT e d q).1 = true → (sizesT e d q).2 ≤ 400)
  | .mk x l, d, q => by
    intro h
    unfold sizesT
    split
    · exact ⟨by show q + 1 ≤ 401; omega, fun h => (by cases h)⟩
    · exact sizesL_lo l (d + 1) (q + 1) (by omega)
theorem sizesL_lo : ∀ (l : List Ex) (d q : Nat), q ≤ 400 → (sizesL l d q).2 ≤ 401 ∧ ((sizesL l d q).1 = true → (sizesL l d q).2 ≤ 400)
  | [], d, q => by
    intro h
    unfold sizesL
    exact ⟨by show q ≤ 401; omega, fun _ => h⟩
  | a :: l, d, q => by
    intro h
    have h1 := sizesT_lo a d q h
    unfold sizesL
    split
    · rename_i ht
      exact sizesL_lo l d _ (h1.2 ht)
    · exact ⟨h1.1, fun h => (by cases h)⟩
end

set_option maxRecDepth 20000 in
theorem Tryz.sizes : ∀ (d : Nat) (e : Ex) (ad : Option Addr) (cap : Nat) (N g q depth : Nat) (w : World), ExIs d w N ad cap e → N ≤ g → w.heap[g]? = some (.cells #[.int .i64 q] 3) → q ≤ 400 → depth ≤ 100 →
    Calls Tryz.prog 118 #[e.v ad cap, .int .i64 depth, .pointer (some ⟨g, 0, none⟩)] w fun r w' => r = .returned (.bool (sizesT e depth q).1) ∧ w'.heap[g]? = some (.cells #[.int .i64 (sizesT e depth q).2] 3) ∧ But g w w'
  | 0, _, _, _, _, _, _, _, _, h => h.elim
  | d + 1, e, ad, cap, N, g, q, depth, w, h => by
    intro hN hg hq hd
    obtain ⟨hok, hlen, hcap, hargs⟩ := h
    have hgs : g < w.heap.size := (Array.getElem?_eq_some_iff.1 hg).1
    have hB0 : Box (w.alloc (.cells (e.node.cells (.slice ad e.args.length cap)) 57)) w.heap.size e.node (.slice ad e.args.length cap) := Box.new _ _ _
    have hg0 : (w.alloc (.cells (e.node.cells (.slice ad e.args.length cap)) 57)).heap[g]? = some (.cells #[.int .i64 q] 3) := (heap_alloc_old _ _ hgs).trans hg
    have hw0 : But g w (w.alloc (.cells (e.node.cells (.slice ad e.args.length cap)) 57)) := (But.refl g w).alloc _
    have hs0 := ex_alloc_size w (.cells (e.node.cells (.slice ad e.args.length cap)) 57)
    unfold Ex.v Node.v
    go_enter Tryz.func118, Tryz.ntmps118
    go_upto_region 1 with fail
    generalize hW : w.alloc (.cells (e.node.cells (.slice ad e.args.length cap)) 57) = W at hB0 hg0 hw0 hs0 ⊢
    clear hW hg
    have cg : W.cell? ⟨g, 0, none⟩ = some (.int .i64 q) := by simp [World.cell?, hg0]
    have fg : W.frozen? ⟨g, 0, none⟩ = false := by simp [World.frozen?, hg0]
    obtain ⟨q1, hq1⟩ : ∃ q1 : Nat, q1 = q + 1 := ⟨_, rfl⟩
    have hB1 : Box (W.setCell ⟨g, 0, none⟩ (.int .i64 q1)) w.heap.size e.node (.slice ad e.args.length cap) := (block_set_ne (by omega)).trans hB0
    have hg1 : (W.setCell ⟨g, 0, none⟩ (.int .i64 q1)).heap[g]? = some (.cells #[.int .i64 q1] 3) := block_set hg0
    have hw1 : But g w (W.setCell ⟨g, 0, none⟩ (.int .i64 q1)) := hw0.set _
    have hs1 : w.heap.size < (W.setCell ⟨g, 0, none⟩ (.int .i64 q1)).heap.size := by rw [size_set]; omega
    replace hq1 := Lib.hid hq1
    go_upto_region 2 with fail
    have hqe : ((q : Int) + 1) = (q1 : Int) := by have := hq1.out; omega
    rw [hqe]
    clear hqe
    generalize W.setCell ⟨g, 0, none⟩ (.int .i64 q1) = W1 at hB1 hg1 hw1 hs1 ⊢
    clear hB0 hg0 hw0 cg fg
    have cg : W1.cell? ⟨g, 0, none⟩ = some (.int .i64 q1) := by simp [World.cell?, hg1]
    obtain ⟨c0, c1, c2, c3, c4, c5, c6, c7, c8, c9, c10, c11, c12⟩ := hB1.is
    by_cases hbig : 400 < q1 ∨ 24 < depth
    · have he : Hid (sizesT e depth q = (false, q1)) := Lib.hid (by rw [sizesT_eq, if_pos (by rw [← hq1.out]; exact hbig), ← hq1.out])
      by_cases hb1 : 400 < q1
      · have hb2 : (400 : Int) < q1 := by omega
        go_wp2_with fail
        go_ret
        rw [he.out]
        exact ⟨rfl, hg1, hw1⟩
      · have hb2 : ¬ (400 : Int) < q1 := by omega
        have hb3 : (24 : Int) < depth := by omega
        go_wp2_with fail
        go_ret
        rw [he.out]
        exact ⟨rfl, hg1, hw1⟩
    · have he : Hid (sizesT e depth q = sizesL e.args (depth + 1) q1) := Lib.hid (by rw [sizesT_eq, if_neg (by rw [← hq1.out]; exact hbig), ← hq1.out])
      have hb2 : ¬ (400 : Int) < q1 := by omega
      have hb3 : ¬ (24 : Int) < depth := by omega
      have hb4 : q1 ≤ 400 := by omega
      go_wp2_with fail
      go_loopw [25] (fun i wr => ∃ k p : Nat, i = .int .i64 k ∧ k ≤ e.args.length ∧ p ≤ 400 ∧ wr.heap[g]? = some (.cells #[.int .i64 p] 3) ∧ Hid (sizesL (e.args.drop k) (depth + 1) p = sizesT e depth q) ∧ But g W1 wr) (fun i _ => e.args.length - (intOf i).toNat)
      case atStart => exact ⟨0, q1, rfl, Nat.zero_le _, hb4, hg1, Lib.hid he.out.symm, But.refl _ _⟩
      case round =>
        obtain ⟨k, p, rfl, hk, hp, hgr, hsz, hwr⟩ := hrel
        have hwk := hw1.trans hwr
        by_cases hlt : k < e.args.length
        · obtain ⟨pa, po, bd, bc, rfl, hpa, hca, hex⟩ := hargs k hlt
          have hcr := hca.of (hwk.block pa (by have := hgs; omega) (by omega))
          obtain ⟨d0, d1, d2, d3, d4, d5, d6, d7, d8, d9, d10, d11, d12⟩ := hcr
          have hex2 : ExIs d (wr.alloc (.cells (e.args[k].node.cells (.slice bd e.args[k].args.length bc)) 57)) N bd bc e.args[k] := hex.below ((hwk.alloc _).below hN (by omega))
          have hg2 : (wr.alloc (.cells (e.args[k].node.cells (.slice bd e.args[k].args.length bc)) 57)).heap[g]? = some (.cells #[.int .i64 p] 3) := (heap_alloc_old _ _ (Array.getElem?_eq_some_iff.1 hgr).1).trans hgr
          have hd1 : ((depth : Int) + 1) = ((depth + 1 : Nat) : Int) := by omega
          have ih := Tryz.sizes d e.args[k] bd bc N g p (depth + 1) _ hex2 hN hg2 hp (by omega)
          rw [← hd1] at ih
          clear hd1
          go_wp2_with (first | (go_at_call 118; refine ih.mono ?_; rintro r w2 ⟨rfl, hg3, hb3⟩))
          · rename_i hno
            have he2 := hsz.out
            rw [sizesL_step hlt] at he2
            rw [if_neg (by simpa using hno)] at he2
            go_ret
            rw [← he2]
            exact ⟨rfl, hg3, (hwk.alloc _).trans hb3⟩
          · rename_i hyes
            have hlo := (sizesT_lo e.args[k] (depth + 1) p hp).2 (by simpa using hyes)
            have he2 := hsz.out
            rw [sizesL_step hlt] at he2
            rw [if_pos (by simpa using hyes)] at he2
            have he2 := Lib.hid he2
            go_roundw
            case rel => exact ⟨k + 1, _, by go_num, by omega, hlo, hg3, he2, (hwr.alloc _).trans hb3⟩
            case measure => simp [intOf]; omega
        · go_wp2_with fail
          go_ret
          have he2 := hsz.out
          rw [List.drop_of_length_le (by omega)] at he2
          rw [← he2]
          exact ⟨rfl, hgr, hwk⟩

set_option maxRecDepth 20000 in
theorem Tryz.small (d : Nat) (e : Ex) (ad : Option Addr) (cap N : Nat) (w : World) (h : ExIs d w N ad cap e) (hN : N ≤ w.heap.size) :
    Calls Tryz.prog 81 #[e.v ad cap] w fun r w' => r = .returned (.bool (sizesT e 1 0).1) ∧ Below w.heap.size w w' := by
  have hs0 := ex_alloc_size w (.cells (e.node.cells (.slice ad e.args.length cap)) 57)
  have hw0 : Below w.heap.size w (w.alloc (.cells (e.node.cells (.slice ad e.args.length cap)) 57)) := (Below.refl _ _).alloc (Nat.le_refl _) _
  have hB0 : Box (w.alloc (.cells (e.node.cells (.slice ad e.args.length cap)) 57)) w.heap.size e.node (.slice ad e.args.length cap) := Box.new _ _ _
  unfold Ex.v Node.v
  go_enter Tryz.func81, Tryz.ntmps81
  go_upto_region 1 with fail
  generalize w.alloc (.cells (e.node.cells (.slice ad e.args.length cap)) 57) = W1 at hB0 hw0 hs0 ⊢
  have hs1 := ex_alloc_size W1 (.cells #[.int .i64 0] 3)
  have hg0 : (W1.alloc (.cells #[.int .i64 0] 3)).heap[w.heap.size + 1]? = some (.cells #[.int .i64 0] 3) := by rw [← hs0]; exact heap_alloc_new W1 _
  have hw1 : Below w.heap.size w (W1.alloc (.cells #[.int .i64 0] 3)) := hw0.alloc (by omega) _
  have hB1 : Box (W1.alloc (.cells #[.int .i64 0] 3)) w.heap.size e.node (.slice ad e.args.length cap) := (heap_alloc_old W1 _ (by omega)).trans hB0
  go_upto_region 2 with fail
  generalize W1.alloc (.cells #[.int .i64 0] 3) = W2 at hs1 hg0 hw1 hB1 ⊢
  have hc := Tryz.sizes d e ad cap N (w.heap.size + 1) 0 1 W2 (h.below (hw1.mono hN)) (by omega) hg0 (by omega) (by omega)
  obtain ⟨c0, c1, c2, c3, c4, c5, c6, c7, c8, c9, c10, c11, c12⟩ := hB1.is
  go_wp2_with (first | (go_at_call 118; refine hc.mono ?_; rintro r w2 ⟨rfl, hg3, hb3⟩))
  go_ret
  exact ⟨rfl, hw1.trans (hb3.below (by omega) (by omega))⟩

theorem countT_eq (e : Ex) : countT e = countL e.args + 1 := by cases e; rfl
theorem deepT_eq (e : Ex) : deepT e = deepL e.args + 1 := by cases e; rfl
theorem countL_take {l : List Ex} {k : Nat} (hk : k < l.length) : countL (l.take (k + 1)) = countL (l.take k) + countT l[k] := by
  induction l generalizing k with
  | nil => simp at hk
  | cons a l ih =>
    cases k with
    | zero => simp [countL]
    | succ k =>
      have := ih (k := k) (by simpa using hk)
      simp only [List.take_succ_cons, countL, List.getElem_cons_succ, this]
      omega
theorem deepL_take {l : List Ex} {k : Nat} (hk : k < l.length) : deepL (l.take (k + 1)) = max (deepL (l.take k)) (deepT l[k]) := by
  induction l generalizing k with
  | nil => simp at hk
  | cons a l ih =>
    cases k with
    | zero => simp [deepL]
    | succ k =>
      have := ih (k := k) (by simpa using hk)
      simp only [List.take_succ_cons, deepL, List.getElem_cons_succ, this]
      omega
theorem countL_ge {l : List Ex} {k : Nat} : countL (l.take k) ≤ countL l := by
  induction l generalizing k with
  | nil => simp
  | cons a l ih =>
    cases k with
    | zero => simp [countL]
    | succ k => simp only [List.take_succ_cons, countL]; have := ih (k := k); omega
theorem countL_mem {l : List Ex} {k : Nat} (hk : k < l.length) : countT l[k] ≤ countL l := by
  have h1 := countL_take hk
  have h2 := countL_ge (l := l) (k := k + 1)
  omega
mutual
theorem deepT_le : ∀ e : Ex, deepT e ≤ countT e
  | .mk _ l => by unfold deepT countT; have := deepL_le l; omega
theorem deepL_le : ∀ l : List Ex, deepL l ≤ countL l
  | [] => by simp [deepL, countL]
  | a :: l => by unfold deepL countL; have := deepT_le a; have := deepL_le l; omega
end

set_option maxRecDepth 20000 in
theorem Tryz.sizeOf : ∀ (d : Nat) (e : Ex) (ad : Option Addr) (cap N : Nat) (w : World), ExIs d w N ad cap e → N ≤ w.heap.size → countT e ≤ 1000000000 →
    Calls Tryz.prog 89 #[e.v ad cap] w fun r w' => r = .returned (.tuple #[.int .i64 (countT e), .int .i64 (deepT e)]) ∧ Below w.heap.size w w'
  | 0, _, _, _, _, _, h => h.elim
  | d + 1, e, ad, cap, N, w, h => by
    intro hN hcnt
    obtain ⟨hok, hlen, hcap, hargs⟩ := h
    have hw0 : Below w.heap.size w (w.alloc (.cells (e.node.cells (.slice ad e.args.length cap)) 57)) := (Below.refl _ _).alloc (Nat.le_refl _) _
    have hB0 : Box (w.alloc (.cells (e.node.cells (.slice ad e.args.length cap)) 57)) w.heap.size e.node (.slice ad e.args.length cap) := Box.new _ _ _
    have hs0 := ex_alloc_size w (.cells (e.node.cells (.slice ad e.args.length cap)) 57)
    have hpost : ∀ w' : World, Hid (Ending.returned (Value.tuple #[.int .i64 (countL (e.args.take e.args.length) + 1 : Nat), .int .i64 (deepL (e.args.take e.args.length) + 1 : Nat)]) = Ending.returned (.tuple #[.int .i64 (countT e), .int .i64 (deepT e)])) := fun _ => Lib.hid (by rw [List.take_length, countT_eq, deepT_eq])
    unfold Ex.v Node.v
    go_enter Tryz.func89, Tryz.ntmps89
    go_upto_region 1 with fail
    generalize w.alloc (.cells (e.node.cells (.slice ad e.args.length cap)) 57) = W1 at hB0 hw0 hs0 ⊢
    obtain ⟨c0, c1, c2, c3, c4, c5, c6, c7, c8, c9, c10, c11, c12⟩ := hB0.is
    go_wp2_with fail
    go_loopw [2, 3, 11] (fun c m i wr => ∃ k p q : Nat, i = .int .i64 k ∧ c = .int .i64 p ∧ m = .int .i64 q ∧ k ≤ e.args.length ∧ Hid (p = countL (e.args.take k) + 1) ∧ Hid (q = deepL (e.args.take k)) ∧ Below w.heap.size w wr) (fun _ _ i _ => e.args.length - (intOf i).toNat)
    case atStart => exact ⟨0, 1, 0, rfl, rfl, rfl, Nat.zero_le _, Lib.hid (by simp [countL]), Lib.hid (by simp [deepL]), hw0⟩
    case round =>
      obtain ⟨k, p, q, rfl, rfl, rfl, hk, hp, hq, hwr⟩ := hrel
      have hp2 : p ≤ 1000000000 := by rw [hp.out]; have := countL_ge (l := e.args) (k := k); rw [countT_eq] at hcnt; omega
      have hq2 : q ≤ 1000000000 := by rw [hq.out]; have := deepL_le (e.args.take k); have := countL_ge (l := e.args) (k := k); rw [countT_eq] at hcnt; omega
      by_cases hlt : k < e.args.length
      · obtain ⟨pa, po, bd, bc, rfl, hpa, hca, hex⟩ := hargs k hlt
        have hcm := countL_mem hlt
        rw [countT_eq] at hcnt
        obtain ⟨d0, d1, d2, d3, d4, d5, d6, d7, d8, d9, d10, d11, d12⟩ := hca.of (hwr.block pa (by omega))
        have hs2 := hwr.size
        have ih := Tryz.sizeOf d e.args[k] bd bc N (wr.alloc (.cells (e.args[k].node.cells (.slice bd e.args[k].args.length bc)) 57)) (hex.below ((hwr.alloc hs2 _).mono hN)) (by rw [ex_alloc_size]; omega) (by omega)
        have hc3 : countT e.args[k] ≤ 1000000000 := by omega
        have hd3 : deepT e.args[k] ≤ 1000000000 := Nat.le_trans (deepT_le _) hc3
        have hcs : countL (e.args.take (k + 1)) = countL (e.args.take k) + countT e.args[k] := countL_take hlt
        have hds : deepL (e.args.take (k + 1)) = max (deepL (e.args.take k)) (deepT e.args[k]) := deepL_take hlt
        replace hcs := Lib.hid hcs
        replace hds := Lib.hid hds
        go_wp2_with (first | (go_at_call 89; refine ih.mono ?_; rintro r w2 ⟨rfl, hb3⟩))
        go_roundw
        case rel => exact ⟨k + 1, p + countT e.args[k], max q (deepT e.args[k]), by go_num, by go_num, by go_num, by omega, Lib.hid (by rw [hcs.out, hp.out]; omega), Lib.hid (by rw [hds.out, hq.out]), hwr.trans (((Below.refl _ _).alloc (Nat.le_refl _) _).trans (hb3.mono (by rw [ex_alloc_size]; omega)) |>.mono hs2)⟩
        case measure => simp [intOf]; omega
      · go_wp2_with fail
        go_ret2
        have hke : k = e.args.length := by omega
        subst hke
        have hf := (hpost w).out
        rw [← hf, ← hq.out, ← hp.out]
        exact ⟨by simp, hwr⟩

theorem sized_law (e : Ex) : (sizesT e 1 0).1 = !(decide (400 < countT e) || decide (24 < deepT e)) := by
  have h := ((sizes_law (countT e)).1 e (Nat.le_refl _) 1 0).1
  cases hs : (sizesT e 1 0).1 with
  | true =>
    have := h.1 hs
    simp
    omega
  | false =>
    rw [hs] at h
    simp only [Bool.false_eq_true, false_iff] at h
    simp
    omega

def sizedN (e : Ex) : Int := if 400 < countT e ∨ 24 < deepT e then 2 else 0

theorem sizedN_law (e : Ex) : sizedN e = if (sizesT e 1 0).1 then 0 else 2 := by
  rw [sized_law]
  unfold sizedN
  by_cases h1 : 400 < countT e <;> by_cases h2 : 24 < deepT e <;> simp [h1, h2]

set_option maxRecDepth 20000 in
theorem Tryz.sized (d : Nat) (e : Ex) (ad : Option Addr) (cap N : Nat) (w : World) (h : ExIs d w N ad cap e) (hN : N ≤ w.heap.size) (hcnt : countT e ≤ 1000000000) :
    Calls Tryz.prog 85 #[e.v ad cap] w fun r w' => r = .returned (.int .i64 (sizedN e)) ∧ Below w.heap.size w w' := by
  have hs0 := ex_alloc_size w (.cells (e.node.cells (.slice ad e.args.length cap)) 57)
  have hw0 : Below w.heap.size w (w.alloc (.cells (e.node.cells (.slice ad e.args.length cap)) 57)) := (Below.refl _ _).alloc (Nat.le_refl _) _
  have hd := deepT_le e
  have hB0 : Box (w.alloc (.cells (e.node.cells (.slice ad e.args.length cap)) 57)) w.heap.size e.node (.slice ad e.args.length cap) := Box.new _ _ _
  unfold Ex.v Node.v
  go_enter Tryz.func85, Tryz.ntmps85
  go_upto_region 1 with fail
  generalize w.alloc (.cells (e.node.cells (.slice ad e.args.length cap)) 57) = W1 at hB0 hw0 hs0 ⊢
  have hc := Tryz.sizeOf d e ad cap N W1 (h.below (hw0.mono hN)) (by omega) hcnt
  obtain ⟨c0, c1, c2, c3, c4, c5, c6, c7, c8, c9, c10, c11, c12⟩ := hB0.is
  go_wp2_with (first | (go_at_call 89; refine hc.mono ?_; rintro r w2 ⟨rfl, hb3⟩))
  all_goals
    go_ret
    refine ⟨congrArg (fun z => Ending.returned (.int .i64 z)) ?_, hw0.trans (hb3.mono (by omega))⟩
    show _ = sizedN e
    unfold sizedN
    first | rw [if_pos (by omega)] | rw [if_neg (by omega)]
end Go.Proofs
