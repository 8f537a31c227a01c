/- Of package dumbmake: trees of parts side by side in memory, and what a generator of them leaves. No condition. -/
import Derived.Test.YtkpligcifakmjaaGreatDoorAny
import Derived.Deep.RegionLaw
namespace Go.Proofs
open Go.RowKit Go.Ke

theorem ColsAt.turn {g : Nat} {zad : Option Addr} {n zcap : Nat} {a : Int} {w w' : World} {N M : Nat} {ad : Option Addr} {l : List Col} (h : ColsAt w N ad l) (hs : Strm w g zad n zcap a) (ht : Turns g w w') (hN : N ≤ w.heap.size) (hM : N ≤ M) : ColsAt w' M ad l := by
  intro i hi
  obtain ⟨p, o, h1, h2, h3, h4, h5⟩ := h i hi
  have hp : p ≠ g := by
    intro hp
    subst hp
    have e : w.heap[p]? = some (.cells #[.slice zad n zcap, .int .i64 a] 31) := hs
    simp only [World.cell?, e] at h3 h4
    match hq : o + i * 3, h3, h4 with
    | 0, h3, _ => simp at h3
    | 1, h3, _ => simp at h3
    | q + 2, h3, _ => simp at h3
  have hb := ht.same p (Nat.lt_of_lt_of_le h2 hN) hp
  have e (j : Nat) : w'.cell? ⟨p, j, none⟩ = w.cell? ⟨p, j, none⟩ := World.cell?_of_block hb
  exact ⟨p, o, h1, Nat.lt_of_lt_of_le h2 hM, (e _).trans h3, (e _).trans h4, (e _).trans h5⟩

/-- At the address lie the numbers of a list, in blocks below M, none of them g. -/
def IntsNe (w : World) (M g : Nat) (ad : Option Addr) (l : List Int) : Prop :=
  ∀ i (h : i < l.length), ∃ p o, ad = some ⟨p, o, none⟩ ∧ p < M ∧ p ≠ g ∧ w.cell? ⟨p, o + i, none⟩ = some (.int .i64 l[i]) ∧ -9223372036854775808 ≤ l[i] ∧ l[i] ≤ 9223372036854775807

theorem IntsNe.at {w : World} {M g : Nat} {ad : Option Addr} {l : List Int} (h : IntsNe w M g ad l) : IntsAt w M ad l := fun i hi => by
  obtain ⟨p, o, h1, h2, _, h4, h5⟩ := h i hi
  exact ⟨p, o, h1, h2, h4, h5⟩

theorem IntsNe.turn {g : Nat} {w w' : World} {N M : Nat} {ad : Option Addr} {l : List Int} (h : IntsNe w N g ad l) (ht : Turns g w w') (hN : N ≤ w.heap.size) (hM : N ≤ M) : IntsNe w' M g ad l := by
  intro i hi
  obtain ⟨p, o, h1, h2, h3, h4, h5⟩ := h i hi
  exact ⟨p, o, h1, Nat.lt_of_lt_of_le h2 hM, h3, (World.cell?_of_block (ht.same p (Nat.lt_of_lt_of_le h2 hN) h3)).trans h4, h5⟩

/-- At the address lie the parts of a tree of at most d levels, all in blocks of which Q holds. -/
def ExQ (Q : Nat → Prop) : Nat → World → Option Addr → Nat → Ex → Prop
  | 0, _, _, _, _ => False
  | d + 1, w, ad, cap, e => e.node.ok ∧ e.args.length ≤ 1000000 ∧ e.args.length ≤ cap ∧
      ∀ i (h : i < e.args.length), ∃ p o bd bc, ad = some ⟨p, o, none⟩ ∧ Q p ∧ CellsAt w p (o + i * 13) e.args[i].node (.slice bd e.args[i].args.length bc) ∧ ExQ Q d w bd bc e.args[i]

theorem ExQ.kept {Q Q' : Nat → Prop} : ∀ {d : Nat} {w w' : World} {ad : Option Addr} {cap : Nat} {e : Ex}, ExQ Q d w ad cap e → (∀ p, Q p → w'.heap[p]? = w.heap[p]?) → (∀ p, Q p → Q' p) → ExQ Q' d w' ad cap e
  | 0, _, _, _, _, _, h, _, _ => h.elim
  | d + 1, w, w', ad, cap, e, h, hb, hQ => by
    obtain ⟨h1, h2, h3, h4⟩ := h
    refine ⟨h1, h2, h3, fun i hi => ?_⟩
    obtain ⟨p, o, bd, bc, g1, g2, g3, g4⟩ := h4 i hi
    exact ⟨p, o, bd, bc, g1, hQ p g2, g3.of (hb p g2), ExQ.kept g4 hb hQ⟩

theorem ExQ.is {Q : Nat → Prop} {N : Nat} : ∀ {d : Nat} {w : World} {ad : Option Addr} {cap : Nat} {e : Ex}, ExQ Q d w ad cap e → (∀ p, Q p → p < N) → ExIs d w N ad cap e
  | 0, _, _, _, _, h, _ => h.elim
  | d + 1, w, ad, cap, e, h, hQ => by
    obtain ⟨h1, h2, h3, h4⟩ := h
    refine ⟨h1, h2, h3, fun i hi => ?_⟩
    obtain ⟨p, o, bd, bc, g1, g2, g3, g4⟩ := h4 i hi
    exact ⟨p, o, bd, bc, g1, hQ p g2, g3, ExQ.is g4 hQ⟩

theorem ExQ.more {Q : Nat → Prop} : ∀ {d : Nat} {w : World} {ad : Option Addr} {cap : Nat} {e : Ex}, ExQ Q d w ad cap e → ExQ Q (d + 1) w ad cap e
  | 0, _, _, _, _, h => h.elim
  | d + 1, w, ad, cap, e, h => by
    obtain ⟨h1, h2, h3, h4⟩ := h
    refine ⟨h1, h2, h3, fun i hi => ?_⟩
    obtain ⟨p, o, bd, bc, g1, g2, g3, g4⟩ := h4 i hi
    exact ⟨p, o, bd, bc, g1, g2, g3, ExQ.more g4⟩

theorem ExQ.upto {Q : Nat → Prop} {d d' : Nat} {w : World} {ad : Option Addr} {cap : Nat} {e : Ex} (h : ExQ Q d w ad cap e) (hd : d ≤ d') : ExQ Q d' w ad cap e := by
  induction hd with
  | refl => exact h
  | step _ ih => exact ih.more

/-- A tree of at most C parts lies in memory, in blocks from L on. -/
def TreeAt (C L : Nat) (W : World) (t : Ex) (ad : Option Addr) (cap : Nat) : Prop := (∃ d, ExQ (fun p => L ≤ p ∧ p < W.heap.size) d W ad cap t) ∧ countT t ≤ C

theorem TreeAt.turn {C L g : Nat} {W W' : World} {t : Ex} {ad : Option Addr} {cap : Nat} (h : TreeAt C L W t ad cap) (ht : Turns g W W') (hg : g < L) : TreeAt C L W' t ad cap := by
  obtain ⟨⟨d, hd⟩, hc⟩ := h
  have := ht.size
  exact ⟨⟨d, hd.kept (fun p hp => ht.same p hp.2 (by omega)) (fun p hp => ⟨hp.1, by omega⟩)⟩, hc⟩

theorem TreeAt.call {C L : Nat} {W W' : World} {t : Ex} {ad : Option Addr} {cap : Nat} (h : TreeAt C L W t ad cap) (hb : Below W.heap.size W W') : TreeAt C L W' t ad cap := by
  obtain ⟨⟨d, hd⟩, hc⟩ := h
  have := hb.size
  exact ⟨⟨d, hd.kept (fun p hp => hb.block p hp.2) (fun p hp => ⟨hp.1, by omega⟩)⟩, hc⟩

theorem TreeAt.less {C D L M : Nat} {W : World} {t : Ex} {ad : Option Addr} {cap : Nat} (h : TreeAt C L W t ad cap) (hD : C ≤ D) (hL : M ≤ L) : TreeAt D M W t ad cap := by
  obtain ⟨⟨d, hd⟩, hc⟩ := h
  exact ⟨⟨d, hd.kept (fun _ _ => rfl) (fun p hp => ⟨by omega, hp.2⟩)⟩, Nat.le_trans hc hD⟩

theorem TreeAt.leaf (L : Nat) (W : World) (x : Node) (h : x.ok) (C : Nat) (hC : 1 ≤ C) : TreeAt C L W (.mk x []) none 0 :=
  ⟨⟨1, h, Nat.zero_le _, Nat.le_refl _, fun i hi => by simp [Ex.args] at hi⟩, by simpa [countT, countL] using hC⟩

theorem TreeAt.set13 {C L g : Nat} {W : World} {t : Ex} {ad : Option Addr} {cap : Nat} (x : Node) (v : Value) (h : TreeAt C L W t ad cap) (hg : g < L) : TreeAt C L (set13 W g x v) t ad cap := by
  obtain ⟨⟨d, hd⟩, hc⟩ := h
  refine ⟨⟨d, hd.kept (fun p hp => set13_ne x v (by omega)) (fun p hp => ?_)⟩, hc⟩
  rw [set13_size]
  exact hp

/-- The cells of trees in a row. -/
def rowC : List (Ex × Option Addr × Nat) → List Value
  | [] => []
  | t :: l => (t.1.node.cells (.slice t.2.1 t.1.args.length t.2.2)).toList ++ rowC l

theorem rowC_at : ∀ (l : List (Ex × Option Addr × Nat)) (i : Nat) (h : i < l.length) (j : Nat), j < 13 → (rowC l)[i * 13 + j]? = (l[i].1.node.cells (.slice l[i].2.1 l[i].1.args.length l[i].2.2))[j]?
  | [], i, h, _, _ => by simp at h
  | t :: l, 0, _, j, hj => by
    unfold rowC
    rw [Nat.zero_mul, Nat.zero_add, List.getElem?_append_left (by simpa [Node.cells] using hj)]
    simp
  | t :: l, i + 1, h, j, hj => by
    unfold rowC
    have e : (i + 1) * 13 + j = 13 + (i * 13 + j) := by omega
    rw [e, List.getElem?_append_right (by simp [Node.cells]), show 13 + (i * 13 + j) - (t.1.node.cells (.slice t.2.1 t.1.args.length t.2.2)).toList.length = i * 13 + j by simp [Node.cells]]
    exact rowC_at l i (by simpa using h) j hj

theorem rowC_cells {W : World} {p : Nat} {l : List (Ex × Option Addr × Nat)} {fr : Nat × Nat} (h : W.heap[p]? = some (.cells (rowC l).toArray 57 fr)) (i : Nat) (hi : i < l.length) : CellsAt W p (0 + i * 13) l[i].1.node (.slice l[i].2.1 l[i].1.args.length l[i].2.2) := by
  have e (j : Nat) (hj : j < 13) : W.cell? ⟨p, 0 + i * 13 + j, none⟩ = (l[i].1.node.cells (.slice l[i].2.1 l[i].1.args.length l[i].2.2))[j]? := by
    simp only [World.cell?, h, List.getElem?_toArray]
    rw [Nat.zero_add]
    exact rowC_at l i hi j hj
  exact ⟨e 0 (by decide), e 1 (by decide), e 2 (by decide), e 3 (by decide), e 4 (by decide), e 5 (by decide), e 6 (by decide), e 7 (by decide), e 8 (by decide), e 9 (by decide), e 10 (by decide), e 11 (by decide), e 12 (by decide)⟩

def countR : List (Ex × Option Addr × Nat) → Nat
  | [] => 0
  | t :: l => countT t.1 + countR l

theorem countL_map : ∀ l : List (Ex × Option Addr × Nat), countL (l.map (·.1)) = countR l
  | [] => rfl
  | t :: l => by simp only [List.map_cons, countL, countR, countL_map l]

/-- A common bound of levels. -/
theorem levels {W : World} {Q : Nat → Prop} : ∀ l : List (Ex × Option Addr × Nat), (∀ t ∈ l, ∃ d, ExQ Q d W t.2.1 t.2.2 t.1) → ∃ d, ∀ t ∈ l, ExQ Q d W t.2.1 t.2.2 t.1
  | [], _ => ⟨0, by simp⟩
  | t :: l, h => by
    obtain ⟨d1, h1⟩ := h t (by simp)
    obtain ⟨d2, h2⟩ := levels l (fun s hs => h s (by simp [hs]))
    refine ⟨max d1 d2, fun s hs => ?_⟩
    rw [List.mem_cons] at hs
    rcases hs with rfl | hs
    · exact h1.upto (Nat.le_max_left _ _)
    · exact (h2 s hs).upto (Nat.le_max_right _ _)

/-- A part over a row of trees. -/
theorem TreeAt.over {W : World} {p L C cap : Nat} {l : List (Ex × Option Addr × Nat)} {fr : Nat × Nat} (x : Node) (hx : x.ok) (h : W.heap[p]? = some (.cells (rowC l).toArray 57 fr)) (hp : L ≤ p) (ht : ∀ t ∈ l, ∃ d, ExQ (fun p => L ≤ p ∧ p < W.heap.size) d W t.2.1 t.2.2 t.1)
    (hl : l.length ≤ 1000000) (hc : countR l + 1 ≤ C) (hcap : l.length ≤ cap) : TreeAt C L W (.mk x (l.map (·.1))) (some ⟨p, 0, none⟩) cap := by
  obtain ⟨d, hd⟩ := levels l ht
  refine ⟨⟨d + 1, hx, by simpa [Ex.args] using hl, by simpa [Ex.args] using hcap, fun i hi => ?_⟩, ?_⟩
  · have hi2 : i < l.length := by simpa [Ex.args] using hi
    refine ⟨p, 0, l[i].2.1, l[i].2.2, rfl, ⟨hp, blk_lt h⟩, ?_, ?_⟩
    · have := rowC_cells h i hi2
      simpa [Ex.args] using this
    · have := hd _ (List.getElem_mem hi2)
      simpa [Ex.args] using this
  · show countL (l.map (·.1)) + 1 ≤ C
    rw [countL_map]; exact hc

theorem TreeAt.exs {C L : Nat} {W : World} {t : Ex} {ad : Option Addr} {cap : Nat} (h : TreeAt C L W t ad cap) (o : Obj) : ∃ d, ExQ (fun p => L ≤ p ∧ p < (W.alloc o).heap.size) d (W.alloc o) ad cap t := by
  obtain ⟨⟨d, hd⟩, _⟩ := h
  exact ⟨d, hd.kept (fun p hp => heap_alloc_old _ _ hp.2) (fun p hp => ⟨hp.1, by rw [ex_alloc_size]; omega⟩)⟩

def opX (op : Int) : Node := ⟨4, op, 0, 0, 0, ⟨#[]⟩, ⟨#[]⟩, ⟨#[]⟩, false⟩

theorem opX_ok (op : Int) : (opX op).ok := ⟨Nat.zero_le _, Nat.zero_le _, Nat.zero_le _⟩

theorem TreeAt.row1 {C1 C L : Nat} {W : World} {t1 : Ex} {d1 : Option Addr} {c1 : Nat} (x : Node) (hx : x.ok) (h1 : TreeAt C1 L W t1 d1 c1) (hC : C1 + 1 ≤ C) (hL : L ≤ W.heap.size) :
    TreeAt C L (W.alloc (.cells (rowC [(t1, d1, c1)]).toArray 57)) (.mk x [t1]) (some ⟨W.heap.size, 0, none⟩) 1 :=
  TreeAt.over (C := C) (cap := 1) (l := [(t1, d1, c1)]) x hx (heap_alloc_new W _) hL (by intro t ht; simp at ht; subst ht; exact h1.exs _) (by simp) (by simp only [countR]; have := h1.2; omega) (by simp)

/-! What a generator of trees is handed. -/

structure Pm where
  g : Nat
  N : Nat
  zad : Option Addr
  zs : List Int
  zcap : Nat
  cs : List Col
  ps : List Int
  cad : Option Addr
  pad : Option Addr
  cc : Nat
  pc : Nat

structure Pm.ok (P : Pm) : Prop where
  cl : P.cs.length ≤ 100
  pl : P.ps.length ≤ 100
  cn : ∀ c ∈ P.cs, c.src.size ≤ 1000 ∧ c.name.size ≤ 1000

structure Gen (P : Pm) (W : World) (a : Int) : Prop where
  live : Live W P.g P.N P.zad P.zs P.zcap a
  cols : ColsAt W W.heap.size P.cad P.cs
  pars : IntsNe W W.heap.size P.g P.pad P.ps

theorem Gen.turn {P : Pm} {W W' : World} {a b : Int} (h : Gen P W a) (ht : Turns P.g W W') (hl : Live W' P.g P.N P.zad P.zs P.zcap b) : Gen P W' b :=
  ⟨hl, h.cols.turn h.live.st ht (Nat.le_refl _) ht.size, h.pars.turn ht (Nat.le_refl _) ht.size⟩

theorem Gen.call {P : Pm} {W W' : World} {a : Int} (h : Gen P W a) (hb : Below W.heap.size W W') : Gen P W' a := h.turn (Turns.of hb (Nat.le_of_lt h.live.lt)) (h.live.call hb)

/-- What is handed back: a tree. -/
def Out (P : Pm) (C : Nat) (K a : Int) (W : World) (e : Ending) (W' : World) : Prop :=
  ∃ t ad cap b, e = .returned (Ex.v t ad cap) ∧ TreeAt C W.heap.size W' t ad cap ∧ b ≤ a + K ∧ Live W' P.g P.N P.zad P.zs P.zcap b ∧ Turns P.g W W'

def zeroX : Node := ⟨0, 0, 0, 0, 0, ⟨#[]⟩, ⟨#[]⟩, ⟨#[]⟩, false⟩

/-- The captured variables and the result of a generator lie in blocks B to B + 4. -/
structure Sc (P : Pm) (B : Nat) (deep : Int) (w W : World) (a : Int) : Prop where
  live : Live W P.g P.N P.zad P.zs P.zcap a
  cols : ColsAt W B P.cad P.cs
  pars : IntsNe W B P.g P.pad P.ps
  e0 : W.heap[B]? = some (.cells #[.pointer (some ⟨P.g, 0, none⟩)] 29)
  e1 : W.heap[B + 1]? = some (.cells #[.slice P.cad P.cs.length P.cc] 52)
  e2 : W.heap[B + 2]? = some (.cells #[.slice P.pad P.ps.length P.pc] 28)
  e3 : W.heap[B + 3]? = some (.cells #[.int .i64 deep] 3)
  res : Box W (B + 4) zeroX (.slice none 0 0)
  lt : P.g < B
  turns : Turns P.g w W
  base : w.heap.size = B

theorem Sc.size {P : Pm} {B : Nat} {deep : Int} {w W : World} {a : Int} (h : Sc P B deep w W a) : B + 5 ≤ W.heap.size := by
  have := blk_lt h.res
  omega

theorem Sc.gen {P : Pm} {B : Nat} {deep : Int} {w W : World} {a : Int} (h : Sc P B deep w W a) : Gen P W a := by
  have hs := h.size
  refine ⟨h.live, fun i hi => ?_, fun i hi => ?_⟩
  · obtain ⟨p, o, h1, h2, h3⟩ := h.cols i hi
    exact ⟨p, o, h1, by omega, h3⟩
  · obtain ⟨p, o, h1, h2, h3⟩ := h.pars i hi
    exact ⟨p, o, h1, by omega, h3⟩

theorem Sc.turn {P : Pm} {B : Nat} {deep : Int} {w W W' : World} {a b : Int} (h : Sc P B deep w W a) (ht : Turns P.g W W') (hl : Live W' P.g P.N P.zad P.zs P.zcap b) : Sc P B deep w W' b := by
  have := h.lt
  have hs := h.size
  exact ⟨hl, h.cols.turn h.live.st ht (by omega) (Nat.le_refl _), h.pars.turn ht (by omega) (Nat.le_refl _), ht.block h.e0 (by omega), ht.block h.e1 (by omega), ht.block h.e2 (by omega), ht.block h.e3 (by omega), ht.block h.res (by omega), h.lt, h.turns.trans ht, h.base⟩

theorem Sc.call {P : Pm} {B : Nat} {deep : Int} {w W W' : World} {a : Int} (h : Sc P B deep w W a) (hb : Below W.heap.size W W') : Sc P B deep w W' a := h.turn (Turns.of hb (Nat.le_of_lt h.live.lt)) (h.live.call hb)

theorem Sc.set {P : Pm} {B b i : Nat} {deep : Int} {v : Value} {w W : World} {a : Int} (h : Sc P B deep w W a) (hb : B + 5 ≤ b) : Sc P B deep w (W.setCell ⟨b, i, none⟩ v) a := by
  have hlt := h.lt
  have hbase := h.base
  have hbl : Below B W (W.setCell ⟨b, i, none⟩ v) := (Below.refl _ _).setCell (by show B ≤ b; omega) _
  have e : ∀ k, k ≠ b → (W.setCell ⟨b, i, none⟩ v).heap[k]? = W.heap[k]? := fun k hk => block_set_ne (Ne.symm hk)
  refine ⟨h.live.set (by omega), h.cols.below hbl, fun j hj => ?_, (e _ (by omega)).trans h.e0, (e _ (by omega)).trans h.e1, (e _ (by omega)).trans h.e2, (e _ (by omega)).trans h.e3, (e _ (by omega)).trans h.res, hlt, h.turns.set (by omega) (by omega), hbase⟩
  obtain ⟨p, o, h1, h2, h3, h4, h5⟩ := h.pars j hj
  exact ⟨p, o, h1, h2, h3, (hbl.cell (p := ⟨p, o + j, none⟩) h2).trans h4, h5⟩

theorem TreeAt.node {C L : Nat} {W : World} {x y : Node} {l : List Ex} {ad : Option Addr} {cap : Nat} (h : TreeAt C L W (.mk x l) ad cap) (hy : y.ok) : TreeAt C L W (.mk y l) ad cap := by
  obtain ⟨⟨d, hd⟩, hc⟩ := h
  cases d with
  | zero => exact hd.elim
  | succ d => exact ⟨⟨d + 1, hy, hd.2⟩, hc⟩

theorem Sc.cells {P : Pm} {B : Nat} {deep : Int} {w W : World} {a : Int} (h : Sc P B deep w W a) :
    W.cell? ⟨B, 0, none⟩ = some (.pointer (some ⟨P.g, 0, none⟩)) ∧ W.cell? ⟨B + 1, 0, none⟩ = some (.slice P.cad P.cs.length P.cc) ∧ W.cell? ⟨B + 2, 0, none⟩ = some (.slice P.pad P.ps.length P.pc) ∧ W.cell? ⟨B + 3, 0, none⟩ = some (.int .i64 deep) := by
  refine ⟨?_, ?_, ?_, ?_⟩ <;> simp [World.cell?, h.e0, h.e1, h.e2, h.e3]

theorem Sc.start {P : Pm} {W : World} {a : Int} (h : Gen P W a) (deep : Int) :
    Sc P W.heap.size deep W (((((W.alloc (.cells #[.pointer (some ⟨P.g, 0, none⟩)] 29)).alloc (.cells #[.slice P.cad P.cs.length P.cc] 52)).alloc (.cells #[.slice P.pad P.ps.length P.pc] 28)).alloc (.cells #[.int .i64 deep] 3)).alloc (.cells (zeroX.cells (.slice none 0 0)) 57)) a := by
  have b1 := (Below.refl W.heap.size W).alloc (Nat.le_refl _) (.cells #[.pointer (some ⟨P.g, 0, none⟩)] 29)
  have s1 := ex_alloc_size W (.cells #[.pointer (some ⟨P.g, 0, none⟩)] 29)
  generalize hW1 : W.alloc (.cells #[.pointer (some ⟨P.g, 0, none⟩)] 29) = W1 at *
  have s2 := ex_alloc_size W1 (.cells #[.slice P.cad P.cs.length P.cc] 52)
  generalize hW2 : W1.alloc (.cells #[.slice P.cad P.cs.length P.cc] 52) = W2 at *
  have s3 := ex_alloc_size W2 (.cells #[.slice P.pad P.ps.length P.pc] 28)
  generalize hW3 : W2.alloc (.cells #[.slice P.pad P.ps.length P.pc] 28) = W3 at *
  have s4 := ex_alloc_size W3 (.cells #[.int .i64 deep] 3)
  generalize hW4 : W3.alloc (.cells #[.int .i64 deep] 3) = W4 at *
  have n0 : W1.heap[W.heap.size]? = some (.cells #[.pointer (some ⟨P.g, 0, none⟩)] 29) := by rw [← hW1]; exact heap_alloc_new _ _
  have n1 : W2.heap[W.heap.size + 1]? = some (.cells #[.slice P.cad P.cs.length P.cc] 52) := by rw [← hW2, ← s1]; exact heap_alloc_new _ _
  have n2 : W3.heap[W.heap.size + 2]? = some (.cells #[.slice P.pad P.ps.length P.pc] 28) := by rw [← hW3, show W.heap.size + 2 = W2.heap.size by omega]; exact heap_alloc_new _ _
  have n3 : W4.heap[W.heap.size + 3]? = some (.cells #[.int .i64 deep] 3) := by rw [← hW4, show W.heap.size + 3 = W3.heap.size by omega]; exact heap_alloc_new _ _
  have o2 : ∀ k, k < W1.heap.size → W2.heap[k]? = W1.heap[k]? := fun k hk => by rw [← hW2]; exact heap_alloc_old _ _ hk
  have o3 : ∀ k, k < W2.heap.size → W3.heap[k]? = W2.heap[k]? := fun k hk => by rw [← hW3]; exact heap_alloc_old _ _ hk
  have o4 : ∀ k, k < W3.heap.size → W4.heap[k]? = W3.heap[k]? := fun k hk => by rw [← hW4]; exact heap_alloc_old _ _ hk
  have o5 : ∀ k, k < W4.heap.size → (W4.alloc (.cells (zeroX.cells (.slice none 0 0)) 57)).heap[k]? = W4.heap[k]? := fun k hk => heap_alloc_old _ _ hk
  have b5 : Below W.heap.size W (W4.alloc (.cells (zeroX.cells (.slice none 0 0)) 57)) := by
    rw [← hW4, ← hW3, ← hW2]
    exact (((b1.alloc (by omega) _).alloc (by rw [hW2]; omega) _).alloc (by rw [hW2, hW3]; omega) _).alloc (by rw [hW2, hW3, hW4]; omega) _
  have hg5 := h.cols.below b5
  have hp5 : IntsNe (W4.alloc (.cells (zeroX.cells (.slice none 0 0)) 57)) W.heap.size P.g P.pad P.ps := fun j hj => by
    obtain ⟨p, o, h1, h2, h3, h4, h5⟩ := h.pars j hj
    exact ⟨p, o, h1, h2, h3, (b5.cell (p := ⟨p, o + j, none⟩) h2).trans h4, h5⟩
  refine ⟨h.live.call b5, hg5, hp5, ?_, ?_, ?_, ?_, ?_, h.live.lt, Turns.of b5 (Nat.le_of_lt h.live.lt), rfl⟩
  · rw [o5 _ (by omega), o4 _ (by omega), o3 _ (by omega), o2 _ (by omega)]; exact n0
  · rw [o5 _ (by omega), o4 _ (by omega), o3 _ (by omega)]; exact n1
  · rw [o5 _ (by omega), o4 _ (by omega)]; exact n2
  · rw [o5 _ (by omega)]; exact n3
  · rw [show W.heap.size + 4 = W4.heap.size by omega]; exact Box.new _ _ _

/-- The end: the tree is written into the result's block. -/
theorem Out.fin {P : Pm} {C L R : Nat} {K a b : Int} {w W : World} {t : Ex} {ad : Option Addr} {cap : Nat} {x : Node} {v : Value} (hT : Turns P.g w W) (hL : Live W P.g P.N P.zad P.zs P.zcap b) (hX : TreeAt C L W t ad cap) (hB : Box W R x v) (hR : w.heap.size ≤ R) (hRL : R < L) (hg : P.g < w.heap.size) (hb : b ≤ a + K) :
    Out P C K a w (.returned (t.v ad cap)) (set13 W R t.node (.slice ad t.args.length cap)) ∧ Box (set13 W R t.node (.slice ad t.args.length cap)) R t.node (.slice ad t.args.length cap) :=
  ⟨⟨t, ad, cap, b, rfl, (hX.set13 _ _ hRL).less (Nat.le_refl _) (by omega), hb, hL.set13 _ _ (by omega), hT.set13 _ _ hR (by omega)⟩, set13_box _ _ hB⟩
end Go.Proofs
