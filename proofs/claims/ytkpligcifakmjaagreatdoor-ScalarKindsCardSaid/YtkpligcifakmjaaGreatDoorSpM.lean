/- Of package dumbmake: a tree that a call turns. No condition. -/
import Derived.Test.YtkpligcifakmjaaGreatDoorRowM
import Derived.Test.YtkpligcifakmjaaGreatDoorKnM
namespace Go.Proofs
open Go.RowKit Go.Ke

/-- A tree of at most C parts lies in blocks of which Q holds. -/
def TreeQ (Q : Nat → Prop) (C : Nat) (W : World) (t : Ex) (ad : Option Addr) (cap : Nat) : Prop := (∃ d, ExQ Q d W ad cap t) ∧ countT t ≤ C

/-- Old blocks, of which Q holds, or new ones behind B and B + 1. -/
def Oldie (Q : Nat → Prop) (B : Nat) (W : World) (p : Nat) : Prop := Q p ∨ (B + 2 ≤ p ∧ p < W.heap.size)

/-- What old blocks may be. -/
structure QOk (Q : Nat → Prop) (g B : Nat) : Prop where
  ne : ∀ p, Q p → p ≠ g
  lt : ∀ p, Q p → p < B
  glt : g < B

section
variable {Q : Nat → Prop} {B C g : Nat} {W W' : World} {t : Ex} {ad : Option Addr} {cap : Nat}

theorem Oldie.ne (hQ : QOk Q g B) {p : Nat} (h : Oldie Q B W p) : p ≠ g ∧ p ≠ B ∧ p ≠ B + 1 := by
  have := hQ.glt
  rcases h with h | h
  · have h1 := hQ.ne p h
    have h2 := hQ.lt p h
    exact ⟨h1, by omega, by omega⟩
  · exact ⟨by omega, by omega, by omega⟩

theorem Oldie.lt (hQ : QOk Q g B) (hB : B ≤ W.heap.size) {p : Nat} (h : Oldie Q B W p) : p < W.heap.size := by
  rcases h with h | h
  · have h2 := hQ.lt p h
    omega
  · exact h.2

theorem Oldie.later {p : Nat} (h : Oldie Q B W p) (hs : W.heap.size ≤ W'.heap.size) : Oldie Q B W' p := by
  rcases h with h | h
  · exact .inl h
  · exact .inr ⟨h.1, by omega⟩

theorem TreeQ.turn (hQ : QOk Q g B) (hB : B ≤ W.heap.size) (h : TreeQ (Oldie Q B W) C W t ad cap) (ht : Turns g W W') : TreeQ (Oldie Q B W') C W' t ad cap := by
  obtain ⟨⟨d, hd⟩, hc⟩ := h
  exact ⟨⟨d, hd.kept (fun p hp => ht.same p (hp.lt hQ hB) (hp.ne hQ).1) (fun p hp => hp.later ht.size)⟩, hc⟩

theorem TreeQ.set {i : Nat} {v : Value} (hQ : QOk Q g B) (h : TreeQ (Oldie Q B W) C W t ad cap) : TreeQ (Oldie Q B (W.setCell ⟨B, i, none⟩ v)) C (W.setCell ⟨B, i, none⟩ v) t ad cap := by
  obtain ⟨⟨d, hd⟩, hc⟩ := h
  exact ⟨⟨d, hd.kept (fun p hp => block_set_ne (Ne.symm (hp.ne hQ).2.1)) (fun p hp => hp.later (by rw [size_set]; exact Nat.le_refl _))⟩, hc⟩

theorem TreeQ.set13 (x : Node) (v : Value) (hQ : QOk Q g B) (h : TreeQ (Oldie Q B W) C W t ad cap) : TreeQ (fun p => Q p ∨ (B ≤ p ∧ p < (set13 W (B + 1) x v).heap.size)) C (set13 W (B + 1) x v) t ad cap := by
  obtain ⟨⟨d, hd⟩, hc⟩ := h
  refine ⟨⟨d, hd.kept (fun p hp => set13_ne x v (hp.ne hQ).2.2) (fun p hp => ?_)⟩, hc⟩
  rw [set13_size]
  rcases hp with hp | hp
  · exact .inl hp
  · exact .inr ⟨by omega, hp.2⟩

theorem TreeQ.old {V : World} (hQ : ∀ p, Q p → p < V.heap.size) (h : TreeQ Q C V t ad cap) (hb : Below V.heap.size V W) : TreeQ (Oldie Q B W) C W t ad cap := by
  obtain ⟨⟨d, hd⟩, hc⟩ := h
  exact ⟨⟨d, hd.kept (fun p hp => hb.block p (hQ p hp)) (fun p hp => .inl hp)⟩, hc⟩

theorem TreeQ.node {x y : Node} {l : List Ex} (h : TreeQ Q C W (.mk x l) ad cap) (hy : y.ok) : TreeQ Q C W (.mk y l) ad cap := by
  obtain ⟨⟨d, hd⟩, hc⟩ := h
  cases d with
  | zero => exact hd.elim
  | succ d => exact ⟨⟨d + 1, hy, hd.2⟩, hc⟩

theorem TreeQ.less {D : Nat} (h : TreeQ Q C W t ad cap) (hD : C ≤ D) : TreeQ Q D W t ad cap := ⟨h.1, Nat.le_trans h.2 hD⟩
end

/-- Of a call that turns a tree: the tree's part lies in block B, the result's block behind it is still empty. -/
structure Sp (g N : Nat) (zad : Option Addr) (zs : List Int) (zcap : Nat) (Q : Nat → Prop) (B C : Nat) (w W : World) (a : Int) (x : Node) (l : List Ex) (ad : Option Addr) (cap : Nat) : Prop where
  live : Live W g N zad zs zcap a
  box : Box W B x (.slice ad l.length cap)
  res : Box W (B + 1) zeroX (.slice none 0 0)
  tree : TreeQ (Oldie Q B W) C W (.mk x l) ad cap
  turns : Turns g w W
  base : w.heap.size = B
  old : QOk Q g B

section
variable {g N : Nat} {zad : Option Addr} {zs : List Int} {zcap B C : Nat} {Q : Nat → Prop} {w W W' : World} {a b : Int} {x : Node} {l : List Ex} {ad : Option Addr} {cap : Nat}

theorem Sp.size (h : Sp g N zad zs zcap Q B C w W a x l ad cap) : B + 2 ≤ W.heap.size := by have := blk_lt h.res; omega

theorem Sp.turn (h : Sp g N zad zs zcap Q B C w W a x l ad cap) (ht : Turns g W W') (hl : Live W' g N zad zs zcap b) : Sp g N zad zs zcap Q B C w W' b x l ad cap := by
  have h1 := h.old.glt
  have h2 := h.size
  exact ⟨hl, ht.block h.box (by omega), ht.block h.res (by omega), h.tree.turn h.old (by omega) ht, h.turns.trans ht, h.base, h.old⟩

theorem Sp.call (h : Sp g N zad zs zcap Q B C w W a x l ad cap) (hb : Below W.heap.size W W') : Sp g N zad zs zcap Q B C w W' a x l ad cap :=
  h.turn (Turns.of hb (Nat.le_of_lt h.live.lt)) (h.live.call hb)

theorem Sp.ok (h : Sp g N zad zs zcap Q B C w W a x l ad cap) : x.ok ∧ l.length ≤ 1000000 ∧ l.length ≤ cap := by
  obtain ⟨⟨d, hd⟩, _⟩ := h.tree
  cases d with
  | zero => exact hd.elim
  | succ d => exact ⟨hd.1, hd.2.1, hd.2.2.1⟩

theorem Sp.less {D : Nat} (h : Sp g N zad zs zcap Q B C w W a x l ad cap) (hD : C ≤ D) : Sp g N zad zs zcap Q B D w W a x l ad cap :=
  ⟨h.live, h.box, h.res, h.tree.less hD, h.turns, h.base, h.old⟩

/-- A field is stored. -/
theorem Sp.put (h : Sp g N zad zs zcap Q B C w W a x l ad cap) (i : Nat) (v : Value) (y : Node) (hy : y.ok) (he : (x.cells (.slice ad l.length cap)).setIfInBounds i v = y.cells (.slice ad l.length cap)) : Sp g N zad zs zcap Q B C w (W.setCell ⟨B, i, none⟩ v) a y l ad cap := by
  have h1 := h.old.glt
  have hbase := h.base
  have hB : (W.setCell ⟨B, i, none⟩ v).heap[B]? = some (.cells ((x.cells (.slice ad l.length cap)).setIfInBounds i v) 57) := block_set h.box
  rw [he] at hB
  exact ⟨h.live.set (by omega), hB, (block_set_ne (by omega)).trans h.res, (h.tree.set h.old).node hy, h.turns.set (by omega) (by omega), hbase, h.old⟩

/-- Its parts are stored anew. -/
theorem Sp.args {D : Nat} {l' : List Ex} {ad' : Option Addr} {cap' : Nat} (h : Sp g N zad zs zcap Q B C w W a x l ad cap) (ht : TreeQ (Oldie Q B W) D W (.mk x l') ad' cap') : Sp g N zad zs zcap Q B D w (W.setCell ⟨B, 9, none⟩ (.slice ad' l'.length cap')) a x l' ad' cap' := by
  have h1 := h.old.glt
  have hbase := h.base
  exact ⟨h.live.set (by omega), block_set (i := 9) (v := .slice ad' l'.length cap') h.box, (block_set_ne (by omega)).trans h.res, ht.set h.old, h.turns.set (by omega) (by omega), hbase, h.old⟩

theorem Sp.cells (h : Sp g N zad zs zcap Q B C w W a x l ad cap) : W.cell? ⟨B, 9, none⟩ = some (.slice ad l.length cap) ∧ W.frozen? ⟨B, 9, none⟩ = false := ⟨h.box.is.c9, h.box.froz 9⟩

/-- At the start. -/
theorem Sp.start (hl : Live w g N zad zs zcap a) (ht : TreeQ Q C w (.mk x l) ad cap) (hQ : QOk Q g w.heap.size) :
    Sp g N zad zs zcap Q w.heap.size C w ((w.alloc (.cells (x.cells (.slice ad l.length cap)) 57)).alloc (.cells (zeroX.cells (.slice none 0 0)) 57)) a x l ad cap := by
  have b1 := (Below.refl w.heap.size w).alloc (Nat.le_refl _) (.cells (x.cells (.slice ad l.length cap)) 57)
  have s1 := ex_alloc_size w (.cells (x.cells (.slice ad l.length cap)) 57)
  have b2 := b1.alloc (by omega) (.cells (zeroX.cells (.slice none 0 0)) 57)
  have n1 := Box.new w x (.slice ad l.length cap)
  have n2 := Box.new (w.alloc (.cells (x.cells (.slice ad l.length cap)) 57)) zeroX (.slice none 0 0)
  rw [s1] at n2
  exact ⟨hl.call b2, (heap_alloc_old _ _ (by omega)).trans n1, n2, ht.old hQ.lt b2, Turns.of b2 (Nat.le_of_lt hl.lt), rfl, hQ⟩

/-- What is handed back: a tree. -/
def Back (g N : Nat) (zad : Option Addr) (zs : List Int) (zcap : Nat) (Q : Nat → Prop) (C : Nat) (K : Int) (w : World) (e : Ending) (W : World) : Prop :=
  ∃ t ad cap b, e = .returned (Ex.v t ad cap) ∧ TreeQ (fun p => Q p ∨ (w.heap.size ≤ p ∧ p < W.heap.size)) C W t ad cap ∧ b ≤ K ∧ Live W g N zad zs zcap b ∧ Turns g w W

theorem Sp.fin {K : Int} (h : Sp g N zad zs zcap Q B C w W b x l ad cap) (hb : b ≤ K) :
    Back g N zad zs zcap Q C K w (.returned (Node.v x (.slice ad l.length cap))) (set13 W (B + 1) x (.slice ad l.length cap)) ∧ Box (set13 W (B + 1) x (.slice ad l.length cap)) (B + 1) x (.slice ad l.length cap) := by
  have h1 := h.old.glt
  have hbase := h.base
  subst hbase
  exact ⟨⟨.mk x l, ad, cap, b, rfl, h.tree.set13 _ _ h.old, hb, h.live.set13 _ _ (by omega), h.turns.set13 _ _ (by omega) (by omega)⟩, set13_box _ _ h.res⟩
end

/-! The row of parts. -/

/-- A row of trees that the call owns. -/
structure RowY (Q : Nat → Prop) (B : Nat) (W : World) (v : Value) (ts : List (Ex × Option Addr × Nat)) : Prop where
  own : W.ownsRow (B + 2) 57 13 v ts.length (rowC ts)
  trees : ∀ t ∈ ts, ∃ d, ExQ (fun p => Oldie Q B W p ∧ some p ≠ v.ownBlock) d W t.2.1 t.2.2 t.1

section
variable {Q : Nat → Prop} {B C g : Nat} {W W' : World} {v : Value} {ts : List (Ex × Option Addr × Nat)}

theorem RowY.nil (Q : Nat → Prop) (B : Nat) (W : World) : RowY Q B W (.slice none 0 0) [] := ⟨World.ownsRow_nil _ _ _ _, by simp⟩

theorem RowY.turn (hQ : QOk Q g B) (hB : B ≤ W.heap.size) (h : RowY Q B W v ts) (ht : Turns g W W') : RowY Q B W' v ts := by
  have hsz := ht.size
  have hlt := hQ.glt
  refine ⟨h.own.kept (row := some g) ⟨ht.below.os, ht.below.tape, ht.below.output, ht.size, fun k hk hkg => ht.same k hk (fun e => hkg (by rw [e]))⟩ (.inr fun e => ?_), fun t hm => ?_⟩
  · have := (h.own.lt g e).1
    omega
  · obtain ⟨d, hd⟩ := h.trees t hm
    exact ⟨d, hd.kept (fun p hp => ht.same p (hp.1.lt hQ hB) (hp.1.ne hQ).1) (fun p hp => ⟨hp.1.later hsz, hp.2⟩)⟩

theorem RowY.call (hQ : QOk Q g B) (hB : B ≤ W.heap.size) (h : RowY Q B W v ts) (hb : Below W.heap.size W W') : RowY Q B W' v ts :=
  h.turn hQ hB (Turns.of hb (Nat.le_trans (Nat.le_of_lt hQ.glt) hB))

/-- A cell of block B is written. -/
theorem RowY.set {i : Nat} {x : Value} (hQ : QOk Q g B) (h : RowY Q B W v ts) : RowY Q B (W.setCell ⟨B, i, none⟩ x) v ts := by
  refine ⟨h.own.kept (row := some B) ⟨rfl, rfl, rfl, by simp [World.setCell], fun k _ hk => block_set_ne (fun e => hk (by rw [e]))⟩ (.inr fun e => ?_), fun t hm => ?_⟩
  · have := (h.own.lt B e).1
    omega
  · obtain ⟨d, hd⟩ := h.trees t hm
    exact ⟨d, hd.kept (fun p hp => block_set_ne (Ne.symm (hp.1.ne hQ).2.1)) (fun p hp => ⟨hp.1.later (by rw [size_set]; exact Nat.le_refl _), hp.2⟩)⟩

/-- How the row lies. -/
theorem RowY.lies (h : RowY Q B W v ts) (h0 : 0 < ts.length) : ∃ gr cap, v = .slice (some ⟨gr, 0, none⟩) ts.length cap ∧ B + 2 ≤ gr ∧ gr < W.heap.size ∧ ts.length ≤ cap ∧
    (∃ cur, W.heap[gr]? = some (.cells cur 57) ∧ ts.length * 13 ≤ cur.size) ∧ (∀ i (hi : i < ts.length), CellsAt W gr (0 + i * 13) ts[i].1.node (.slice ts[i].2.1 ts[i].1.args.length ts[i].2.2)) := by
  rcases h.own.2 with ⟨rfl, hn⟩ | ⟨gr, cap, cur, rfl, hb, hg, hnc, _, hcs, htake⟩
  · omega
  · refine ⟨gr, cap, rfl, hb, blk_lt hg, hnc, ⟨cur, hg, by rw [hcs]; exact Nat.mul_le_mul_right _ hnc⟩, fun i hi => ?_⟩
    have e (j : Nat) (hj : j < 13) : W.cell? ⟨gr, 0 + i * 13 + j, none⟩ = (ts[i].1.node.cells (.slice ts[i].2.1 ts[i].1.args.length ts[i].2.2))[j]? := by
      have hat := rowC_at ts i hi j hj
      rw [← htake, List.getElem?_take_of_lt (by omega)] at hat
      simp only [World.cell?, hg, Nat.zero_add]
      simpa using hat
    exact ⟨e 0 (by decide), e 1 (by decide), e 2 (by decide), e 3 (by decide), e 4 (by decide), e 5 (by decide), e 6 (by decide), e 7 (by decide), e 8 (by decide), e 9 (by decide), e 10 (by decide), e 11 (by decide), e 12 (by decide)⟩

/-- The part over the row. -/
theorem RowY.tree (h : RowY Q B W v ts) (h1 : ts.length ≤ 1000000) (x : Node) (hx : x.ok) (hC : countR ts + 1 ≤ C) :
    ∃ ad cap, v = .slice ad ts.length cap ∧ TreeQ (Oldie Q B W) C W (.mk x (ts.map (·.1))) ad cap := by
  by_cases h0 : 0 < ts.length
  · obtain ⟨gr, cap, rfl, hb, hlt, hnc, _, hc⟩ := h.lies h0
    refine ⟨some ⟨gr, 0, none⟩, cap, rfl, ?_⟩
    obtain ⟨d, hd⟩ := levels (Q := Oldie Q B W) ts (fun t ht => by
      obtain ⟨d, hd⟩ := h.trees t ht
      exact ⟨d, hd.kept (fun _ _ => rfl) (fun p hp => hp.1)⟩)
    refine ⟨⟨d + 1, hx, by simpa [Ex.args] using h1, by simpa [Ex.args] using hnc, fun i hi => ?_⟩, ?_⟩
    · have hi2 : i < ts.length := by simpa [Ex.args] using hi
      refine ⟨gr, 0, ts[i].2.1, ts[i].2.2, rfl, .inr ⟨hb, hlt⟩, ?_, ?_⟩
      · simpa [Ex.args] using hc i hi2
      · simpa [Ex.args] using hd _ (List.getElem_mem hi2)
    · show countL (ts.map (·.1)) + 1 ≤ C
      rw [countL_map]; exact hC
  · have : ts = [] := List.eq_nil_of_length_eq_zero (by omega)
    subst this
    rcases h.own.2 with ⟨rfl, hn⟩ | ⟨gr, cap, cur, rfl, _⟩
    · exact ⟨none, 0, rfl, ⟨1, hx, Nat.zero_le _, Nat.le_refl _, fun i hi => by simp [Ex.args] at hi⟩, by simpa [countT, countL, countR] using hC⟩
    · exact ⟨some ⟨gr, 0, none⟩, cap, rfl, ⟨1, hx, Nat.zero_le _, Nat.zero_le _, fun i hi => by simp [Ex.args] at hi⟩, by simpa [countT, countL, countR] using hC⟩

/-- Trees that lie elsewhere join the row. -/
theorem wpList_append_rowY {ops : Array Oper} {rest : List Oper} {o : Oper} {A : Act} {R : Exit → Act → World → Prop} (hgd : o.guard = none) (s x : Operand)
    (ho : o.op = .call { callee := .builtin .append, args := #[s, x], argTypes := #[53, 53] }) (hQ : QOk Q g B)
    (hR : RowY Q B W v ts) (hs : A.eval s = v) (ns : List (Ex × Option Addr × Nat)) (q p c : Nat)
    (hq : ∀ i (hi : i < ns.length), CellsAt W q (p + i * 13) ns[i].1.node (.slice ns[i].2.1 ns[i].1.args.length ns[i].2.2)) (hx : A.eval x = .slice (some ⟨q, p, none⟩) ns.length c)
    (hns : ∀ t ∈ ns, ∃ d, ExQ (fun p => Oldie Q B W p ∧ some p ≠ v.ownBlock) d W t.2.1 t.2.2 t.1) (hm : 0 < ns.length) (hlen : ts.length + ns.length ≤ 1000000) (hL : B + 2 ≤ W.heap.size)
    (h : ∀ v' w', (RowY Q B w' v' (ts ++ ns) ∧ W.grownBy w' v.ownBlock) → wpList Tryz.prog ops R rest (A.put o.dst v') w') : wpList Tryz.prog ops R (o :: rest) A W := by
  obtain ⟨i, hi, hz, hsi, hb⟩ := info_parts Tryz.info57'
  refine wpList_plain hgd fun K hK => ?_
  refine wp_append_own2 W s x 53 ho (B + 2) 57 i _ 13 192 Tryz.underlying53 hi hz hsi hb rfl (by decide) v ts.length (rowC ts) hs hR.own ⟨q, p, none⟩ ns.length c (rowC ns) hx (rowC_length ns) ?_ (rowC_one ns) hm (by unfold maxLen; omega) (by omega) hL ?_
  · intro j u hj
    have : (⟨q, p, none⟩ : Addr).add j = ⟨q, p + j, none⟩ := by unfold Addr.add; split <;> simp_all
    rw [this]
    exact rowC_lies hq j u hj
  · intro v' w' ho' hg hw
    have hsz := hg.size
    refine hK _ _ (h v' w' ⟨⟨?_, fun t ht => ?_⟩, hg⟩)
    · rw [List.length_append, rowC_append]; exact ho'
    · have hall : ∃ d, ExQ (fun p => Oldie Q B W p ∧ some p ≠ v.ownBlock) d W t.2.1 t.2.2 t.1 := by
        rw [List.mem_append] at ht
        rcases ht with ht | ht
        · exact hR.trees t ht
        · exact hns t ht
      obtain ⟨d, hd⟩ := hall
      refine ⟨d, hd.kept (fun p hp => hg.block p (hp.1.lt hQ (by omega)) hp.2) (fun p hp => ⟨hp.1.later hsz, ?_⟩)⟩
      rcases hw with e | e
      · rw [e]; exact hp.2
      · rw [e]; intro e2; injection e2 with e2; have := hp.1.lt hQ (by omega : B ≤ W.heap.size); omega
end

/-- The parts of a tree as a row. -/
theorem row_of {Q : Nat → Prop} {d p : Nat} {W : World} : ∀ (l : List Ex) (o : Nat), (∀ i (h : i < l.length), ∃ bd bc, CellsAt W p (o + i * 13) l[i].node (.slice bd l[i].args.length bc) ∧ ExQ Q d W bd bc l[i]) →
    ∃ ts : List (Ex × Option Addr × Nat), ts.map (·.1) = l ∧ (∀ i (hi : i < ts.length), CellsAt W p (o + i * 13) ts[i].1.node (.slice ts[i].2.1 ts[i].1.args.length ts[i].2.2)) ∧ ∀ t ∈ ts, ExQ Q d W t.2.1 t.2.2 t.1
  | [], o, _ => ⟨[], rfl, fun i hi => by simp at hi, by simp⟩
  | e :: l, o, h => by
    obtain ⟨bd, bc, h1, h2⟩ := h 0 (by simp)
    obtain ⟨ts, t1, t2, t3⟩ := row_of l (o + 13) (fun i hi => by
      obtain ⟨bd, bc, h3, h4⟩ := h (i + 1) (by simpa using hi)
      refine ⟨bd, bc, ?_, by simpa using h4⟩
      rw [show o + 13 + i * 13 = o + (i + 1) * 13 by omega]
      simpa using h3)
    refine ⟨(e, bd, bc) :: ts, by simp [t1], fun i hi => ?_, fun t ht => ?_⟩
    · match i, hi with
      | 0, _ => simpa using h1
      | i + 1, hi =>
        have := t2 i (by simpa using hi)
        rw [show o + (i + 1) * 13 = o + 13 + i * 13 by omega]
        simpa using this
    · rw [List.mem_cons] at ht
      rcases ht with rfl | ht
      · simpa using h2
      · exact t3 t ht

theorem TreeQ.parts {Q : Nat → Prop} {C : Nat} {W : World} {x : Node} {l : List Ex} {ad : Option Addr} {cap : Nat} (h : TreeQ Q C W (.mk x l) ad cap) (h0 : 0 < l.length) :
    ∃ p o, ad = some ⟨p, o, none⟩ ∧ Q p ∧ ∃ ts : List (Ex × Option Addr × Nat), ts.map (·.1) = l ∧ (∀ i (hi : i < ts.length), CellsAt W p (o + i * 13) ts[i].1.node (.slice ts[i].2.1 ts[i].1.args.length ts[i].2.2)) ∧ ∀ t ∈ ts, ∃ d, ExQ Q d W t.2.1 t.2.2 t.1 := by
  obtain ⟨⟨d, hd⟩, _⟩ := h
  cases d with
  | zero => exact hd.elim
  | succ d =>
    obtain ⟨_, _, _, h4⟩ := hd
    obtain ⟨p, o, bd, bc, rfl, hp, _, _⟩ := h4 0 h0
    refine ⟨p, o, rfl, hp, ?_⟩
    obtain ⟨ts, t1, t2, t3⟩ := row_of (Q := Q) (d := d) (p := p) (W := W) l o (fun i hi => by
      obtain ⟨p', o', bd, bc, e, _, g3, g4⟩ := h4 i hi
      injection e with e
      injection e with e1 e2
      subst e1 e2
      exact ⟨bd, bc, g3, g4⟩)
    exact ⟨ts, t1, t2, fun t ht => ⟨d, t3 t ht⟩⟩

/-- All parts but the first. -/
theorem TreeQ.tail {Q : Nat → Prop} {C : Nat} {W : World} {x : Node} {l : List Ex} {p o cap : Nat} (h : TreeQ Q C W (.mk x l) (some ⟨p, o, none⟩) cap) (h0 : 0 < l.length) :
    TreeQ Q C W (.mk x l.tail) (some ⟨p, o + 13, none⟩) (cap - 1) := by
  obtain ⟨⟨d, hd⟩, hc⟩ := h
  cases d with
  | zero => exact hd.elim
  | succ d =>
    obtain ⟨h1, h2, h3, h4⟩ := hd
    refine ⟨⟨d + 1, h1, ?_, ?_, fun i hi => ?_⟩, ?_⟩
    · simp only [Ex.args, List.length_tail] at h2 ⊢; omega
    · simp only [Ex.args, List.length_tail] at h3 ⊢; omega
    · simp only [Ex.args, List.length_tail] at hi
      obtain ⟨p', o', bd, bc, e, hp, g3, g4⟩ := h4 (i + 1) (by simp only [Ex.args]; omega)
      injection e with e
      injection e with e1 e2
      subst e1 e2
      refine ⟨p, o + 13, bd, bc, rfl, hp, ?_, ?_⟩
      · rw [show o + 13 + i * 13 = o + (i + 1) * 13 by omega]
        simpa [Ex.args] using g3
      · simpa [Ex.args] using g4
    · cases l with
      | nil => simp at h0
      | cons e l => simp only [List.tail_cons, countT, countL] at hc ⊢; omega

/-! One part of a row is written anew. -/

/-- A part written over thirteen cells of a block. -/
def put13 (W : World) (p o : Nat) (x : Node) (a : Value) : World :=
  ((((((((((((W.setCell ⟨p, o, none⟩ (.int .i64 x.k)).setCell ⟨p, o + 1, none⟩ (.int .i64 x.op)).setCell ⟨p, o + 2, none⟩ (.int .i64 x.n)).setCell ⟨p, o + 3, none⟩ (.int .i64 x.vk)).setCell ⟨p, o + 4, none⟩ (.int .i64 x.vn)).setCell ⟨p, o + 5, none⟩ (.string x.vs)).setCell ⟨p, o + 6, none⟩ (.string x.src)).setCell ⟨p, o + 7, none⟩ (.string x.name)).setCell ⟨p, o + 8, none⟩ (.bool x.dist)).setCell ⟨p, o + 9, none⟩ a).setCell ⟨p, o + 10, none⟩ (.slice none 0 0)).setCell ⟨p, o + 11, none⟩ (.slice none 0 0)).setCell ⟨p, o + 12, none⟩ (.slice none 0 0)

theorem put13_ne {W : World} {p o k : Nat} (x : Node) (a : Value) (h : k ≠ p) : (put13 W p o x a).heap[k]? = W.heap[k]? := by
  unfold put13
  iterate 13 rw [block_set_ne (Ne.symm h)]

theorem put13_size {W : World} {p o : Nat} (x : Node) (a : Value) : (put13 W p o x a).heap.size = W.heap.size := by
  unfold put13
  iterate 13 rw [size_set]

theorem put13_below {N p o : Nat} {w W : World} (x : Node) (a : Value) (h : Below N w W) (hg : N ≤ p) : Below N w (put13 W p o x a) := by
  unfold put13
  iterate 13 refine Below.setCell ?_ hg _
  exact h

/-- The thirteen cells. -/
def sets13 (cur : Array Value) (o : Nat) (x : Node) (a : Value) : Array Value :=
  ((((((((((((cur.setIfInBounds o (.int .i64 x.k)).setIfInBounds (o + 1) (.int .i64 x.op)).setIfInBounds (o + 2) (.int .i64 x.n)).setIfInBounds (o + 3) (.int .i64 x.vk)).setIfInBounds (o + 4) (.int .i64 x.vn)).setIfInBounds (o + 5) (.string x.vs)).setIfInBounds (o + 6) (.string x.src)).setIfInBounds (o + 7) (.string x.name)).setIfInBounds (o + 8) (.bool x.dist)).setIfInBounds (o + 9) a).setIfInBounds (o + 10) (.slice none 0 0)).setIfInBounds (o + 11) (.slice none 0 0)).setIfInBounds (o + 12) (.slice none 0 0)

theorem put13_block {W : World} {p o : Nat} {cur : Array Value} (x : Node) (a : Value) (h : W.heap[p]? = some (.cells cur 57)) : (put13 W p o x a).heap[p]? = some (.cells (sets13 cur o x a) 57) := by
  unfold put13 sets13
  rw [block_set (block_set (block_set (block_set (block_set (block_set (block_set (block_set (block_set (block_set (block_set (block_set (block_set h))))))))))))]

theorem sets13_in {cur : Array Value} {o : Nat} (x : Node) (a : Value) (h : o + 13 ≤ cur.size) (j : Nat) (hj : j < 13) : (sets13 cur o x a)[o + j]? = (x.cells a)[j]? := by
  unfold sets13 Node.cells
  match j, hj with
  | 0, _ => simp [Array.getElem?_setIfInBounds]; omega
  | 1, _ => simp [Array.getElem?_setIfInBounds]; omega
  | 2, _ => simp [Array.getElem?_setIfInBounds]; omega
  | 3, _ => simp [Array.getElem?_setIfInBounds]; omega
  | 4, _ => simp [Array.getElem?_setIfInBounds]; omega
  | 5, _ => simp [Array.getElem?_setIfInBounds]; omega
  | 6, _ => simp [Array.getElem?_setIfInBounds]; omega
  | 7, _ => simp [Array.getElem?_setIfInBounds]; omega
  | 8, _ => simp [Array.getElem?_setIfInBounds]; omega
  | 9, _ => simp [Array.getElem?_setIfInBounds]; omega
  | 10, _ => simp [Array.getElem?_setIfInBounds]; omega
  | 11, _ => simp [Array.getElem?_setIfInBounds]; omega
  | 12, _ => simp [Array.getElem?_setIfInBounds]; omega

theorem sets13_out {cur : Array Value} {o : Nat} (x : Node) (a : Value) (j : Nat) (hj : j < o ∨ o + 13 ≤ j) : (sets13 cur o x a)[j]? = cur[j]? := by
  unfold sets13
  iterate 13 rw [Array.getElem?_setIfInBounds_ne (by omega)]

theorem put13_at {W : World} {p o : Nat} {cur : Array Value} (x : Node) (a : Value) (h : W.heap[p]? = some (.cells cur 57)) (hs : o + 13 ≤ cur.size) : CellsAt (put13 W p o x a) p o x a := by
  have hb := put13_block (o := o) x a h
  have e (j : Nat) (hj : j < 13) : (put13 W p o x a).cell? ⟨p, o + j, none⟩ = (x.cells a)[j]? := by
    simp only [World.cell?, hb]
    exact sets13_in x a hs j hj
  exact ⟨e 0 (by decide), e 1 (by decide), e 2 (by decide), e 3 (by decide), e 4 (by decide), e 5 (by decide), e 6 (by decide), e 7 (by decide), e 8 (by decide), e 9 (by decide), e 10 (by decide), e 11 (by decide), e 12 (by decide)⟩

theorem put13_other {W : World} {p o o' : Nat} {cur : Array Value} {y : Node} {b : Value} (x : Node) (a : Value) (h : W.heap[p]? = some (.cells cur 57)) (hc : CellsAt W p o' y b) (ho : o' + 13 ≤ o ∨ o + 13 ≤ o') : CellsAt (put13 W p o x a) p o' y b := by
  have hb := put13_block (o := o) x a h
  have e (j : Nat) (hj : j < 13) : (put13 W p o x a).cell? ⟨p, o' + j, none⟩ = W.cell? ⟨p, o' + j, none⟩ := by
    simp only [World.cell?, hb, h]
    exact sets13_out x a (o' + j) (by omega)
  obtain ⟨h0, h1, h2, h3, h4, h5, h6, h7, h8, h9, h10, h11, h12⟩ := hc
  exact ⟨(e 0 (by decide)).trans h0, (e 1 (by decide)).trans h1, (e 2 (by decide)).trans h2, (e 3 (by decide)).trans h3, (e 4 (by decide)).trans h4, (e 5 (by decide)).trans h5, (e 6 (by decide)).trans h6, (e 7 (by decide)).trans h7, (e 8 (by decide)).trans h8, (e 9 (by decide)).trans h9, (e 10 (by decide)).trans h10, (e 11 (by decide)).trans h11, (e 12 (by decide)).trans h12⟩

theorem countR_set : ∀ (ts : List (Ex × Option Addr × Nat)) (k : Nat) (h : k < ts.length) (t : Ex × Option Addr × Nat), countR (ts.set k t) + countT ts[k].1 = countR ts + countT t.1
  | s :: ts, 0, _, t => by simp only [List.set_cons_zero, countR, List.getElem_cons_zero]; omega
  | s :: ts, k + 1, h, t => by
    have := countR_set ts k (by simpa using h) t
    simp only [List.set_cons_succ, countR, List.getElem_cons_succ]; omega

theorem countR_at : ∀ (ts : List (Ex × Option Addr × Nat)) (k : Nat) (h : k < ts.length), countT ts[k].1 ≤ countR ts
  | s :: ts, 0, _ => by simp only [countR, List.getElem_cons_zero]; omega
  | s :: ts, k + 1, h => by
    have := countR_at ts k (by simpa using h)
    simp only [countR, List.getElem_cons_succ]; omega

theorem cells_over {W : World} {p o : Nat} (x : Node) (ts : List (Ex × Option Addr × Nat)) (i : Nat) (hi : i < ts.length) (h : CellsAt W p o ts[i].1.node (.slice ts[i].2.1 ts[i].1.args.length ts[i].2.2)) :
    CellsAt W p o ((Ex.mk x (ts.map (·.1))).args[i]'(by simpa [Ex.args] using hi)).node (.slice ts[i].2.1 ((Ex.mk x (ts.map (·.1))).args[i]'(by simpa [Ex.args] using hi)).args.length ts[i].2.2) := by
  simpa [Ex.args] using h

theorem exq_over {W : World} {Q : Nat → Prop} {d : Nat} (x : Node) (ts : List (Ex × Option Addr × Nat)) (i : Nat) (hi : i < ts.length) (h : ExQ Q d W ts[i].2.1 ts[i].2.2 ts[i].1) :
    ExQ Q d W ts[i].2.1 ts[i].2.2 ((Ex.mk x (ts.map (·.1))).args[i]'(by simpa [Ex.args] using hi)) := by
  simpa [Ex.args] using h

/-- The k-th part of the row is written anew: the part over the row. -/
theorem RowY.put {Q : Nat → Prop} {B C g gr cap k : Nat} {W : World} {ts : List (Ex × Option Addr × Nat)} (_hQ : QOk Q g B) (m : Nat) (h : RowY Q B W (.slice (some ⟨gr, 0, none⟩) m cap) ts) (h1 : ts.length ≤ 1000000) (hk : k < ts.length) (t : Ex) (td : Option Addr) (tc : Nat)
    (ht : ∃ d, ExQ (fun p => Oldie Q B W p ∧ p ≠ gr) d W td tc t) (x : Node) (hx : x.ok) (hC : countR ts + countT t + 1 ≤ C + countT ts[k].1) :
    TreeQ (Oldie Q B (put13 W gr (0 + k * 13) t.node (.slice td t.args.length tc))) C (put13 W gr (0 + k * 13) t.node (.slice td t.args.length tc)) (.mk x ((ts.set k (t, td, tc)).map (·.1))) (some ⟨gr, 0, none⟩) cap := by
  obtain ⟨gr', cap', hv, hb, hlt, hnc, ⟨cur, hcur, hsz⟩, hc⟩ := h.lies (by omega)
  have e1 : gr = gr' := by injection hv with e1 _ _; injection e1 with e1; injection e1
  have e2 : cap = cap' := by injection hv
  subst e1 e2
  have hset := countR_set ts k hk (t, td, tc)
  have hps := @put13_size W gr (0 + k * 13) t.node (.slice td t.args.length tc)
  obtain ⟨d, hd⟩ := levels (Q := fun p => Oldie Q B W p ∧ p ≠ gr) (ts.set k (t, td, tc)) (fun s hs => by
    rcases List.mem_or_eq_of_mem_set hs with hs | hs
    · obtain ⟨d, hd⟩ := h.trees s hs
      exact ⟨d, hd.kept (fun _ _ => rfl) (fun p hp => ⟨hp.1, fun e => hp.2 (by simp [Value.ownBlock, e])⟩)⟩
    · rw [hs]; exact ht)
  refine ⟨⟨d + 1, hx, by simpa [Ex.args] using h1, by simpa [Ex.args] using hnc, fun i hi => ?_⟩, ?_⟩
  · have hi2 : i < ts.length := by simpa [Ex.args] using hi
    have hi3 : i < (ts.set k (t, td, tc)).length := by simpa using hi2
    refine ⟨gr, 0, (ts.set k (t, td, tc))[i].2.1, (ts.set k (t, td, tc))[i].2.2, rfl, .inr ⟨hb, by rw [hps]; exact hlt⟩, ?_, ?_⟩
    · have hgo : CellsAt (put13 W gr (0 + k * 13) t.node (.slice td t.args.length tc)) gr (0 + i * 13) (ts.set k (t, td, tc))[i].1.node (.slice (ts.set k (t, td, tc))[i].2.1 (ts.set k (t, td, tc))[i].1.args.length (ts.set k (t, td, tc))[i].2.2) := by
        by_cases hik : i = k
        · subst hik
          simp only [List.getElem_set_self]
          exact put13_at _ _ hcur (by omega)
        · simp only [List.getElem_set_ne (Ne.symm hik)]
          exact put13_other _ _ hcur (hc i hi2) (by omega)
      exact cells_over x _ i hi3 hgo
    · have := (hd _ (List.getElem_mem hi3)).kept (Q' := Oldie Q B (put13 W gr (0 + k * 13) t.node (.slice td t.args.length tc))) (w' := put13 W gr (0 + k * 13) t.node (.slice td t.args.length tc)) (fun p hp => put13_ne _ _ hp.2) (fun p hp => hp.1.later (by rw [hps]; exact Nat.le_refl _))
      exact exq_over x _ i hi3 this
  · show countL ((ts.set k (t, td, tc)).map (·.1)) + 1 ≤ C
    rw [countL_map]
    simp only at hset
    omega
end Go.Proofs

namespace Go.Proofs
open Go.RowKit Go.Ke

theorem TreeQ.eta {Q : Nat → Prop} {C : Nat} {W : World} {t : Ex} {ad : Option Addr} {cap : Nat} (h : TreeQ Q C W t ad cap) : TreeQ Q C W (.mk t.node t.args) ad cap := by
  cases t; exact h

section
variable {g N : Nat} {zad : Option Addr} {zs : List Int} {zcap B C : Nat} {Q : Nat → Prop} {w W W' : World} {a b : Int} {x : Node} {l : List Ex} {ad : Option Addr} {cap : Nat}

theorem Sp.grown (h : Sp g N zad zs zcap Q B C w W a x l ad cap) (hg : W.grownBy W' none) : Sp g N zad zs zcap Q B C w W' a x l ad cap :=
  h.call ⟨hg.os, hg.tape, hg.output, hg.size, fun k hk => hg.block k hk (by simp)⟩

theorem run_append_none (P : Program) (w : World) (t ty e : TypeId) (i : TypeInfo) (ht : P.underlying t = some (.slice e)) (hi : P.info? e = some i) (a : Option Addr) (c : Nat) :
    (Builtin.append_ #[t, t] ty #[.slice none 0 0, .slice a 0 c]).run P w = .ok (.slice none 0 0) w := by
  cases a with
  | none => simp [Builtin.append_, run_underlying ht, sizeOf, typeInfo, hi, Builtin.lenOf, run_firstCells_none]
  | some a =>
    have hf := run_firstCells_some (P := P) w i.size 0 a 0 c [] (by simp) (by simp)
    simp [Builtin.append_, run_underlying ht, sizeOf, typeInfo, hi, Builtin.lenOf, hf]

/-- The parts are copied into a row of their own. -/
theorem append_clone {ops : Array Oper} {rest : List Oper} {o : Oper} {A : Act} {R : Exit → Act → World → Prop} (hgd : o.guard = none) (s z : Operand)
    (ho : o.op = .call { callee := .builtin .append, args := #[s, z], argTypes := #[53, 53] }) (h : Sp g N zad zs zcap Q B C w W a x l ad cap) (hs : A.eval s = .slice none 0 0) (hz : A.eval z = .slice ad l.length cap)
    (hK : ∀ v' w', (∃ ad' cap' ts, v' = .slice ad' l.length cap' ∧ Sp g N zad zs zcap Q B C w w' a x l ad cap ∧ ts.map (·.1) = l ∧ RowY Q B w' (.slice ad' l.length cap') ts ∧ TreeQ (Oldie Q B w') C w' (.mk x l) ad' cap') → wpList Tryz.prog ops R rest (A.put o.dst v') w') : wpList Tryz.prog ops R (o :: rest) A W := by
  have hok := h.ok
  have hsz := h.size
  by_cases h0 : 0 < l.length
  · obtain ⟨p, q, rfl, hp, ts, hts, t2, t3⟩ := h.tree.parts h0
    have hlen : ts.length = l.length := by rw [← hts]; simp
    rw [← hlen] at hz
    refine wpList_append_rowY hgd s z ho h.old (RowY.nil Q B W) hs ts p q cap t2 hz (fun t ht => ?_) (by omega) (by simp; omega) hsz (fun v' w' hr => ?_)
    · obtain ⟨d, hd⟩ := t3 t ht
      exact ⟨d, hd.kept (fun _ _ => rfl) (fun p hp => ⟨hp, by simp [Value.ownBlock]⟩)⟩
    · obtain ⟨hR, hg⟩ := hr
      rw [List.nil_append] at hR
      have hcount : countR ts + 1 ≤ C := by
        have := h.tree.2
        rw [← hts] at this
        unfold countT at this
        rwa [countL_map] at this
      obtain ⟨ad', cap', rfl, hT⟩ := hR.tree (by omega) x hok.1 hcount
      rw [hts] at hT
      rw [hlen] at hR ⊢
      exact hK _ _ ⟨ad', cap', ts, rfl, h.grown hg, hts, hR, hT⟩
  · have hl : l = [] := List.eq_nil_of_length_eq_zero (by omega)
    subst hl
    obtain ⟨i, hi, _, _, _⟩ := info_parts Tryz.info57'
    have hr := run_append_none Tryz.prog W 53 o.type 57 i Tryz.underlying53 hi ad cap
    refine wpList_plain hgd fun K hK2 => ?_
    unfold Oper.wp execOp
    simp only [List.length_nil] at hz
    simp only [ho, resolve, invoke, builtin, Sem.run_bind, Sem.run_pure, Result.andThen_ok, List.map_toArray, List.map_cons, List.map_nil, hs, hz, hr]
    refine hK2 _ _ (hK _ _ ⟨none, 0, [], rfl, h, rfl, RowY.nil Q B W, ?_⟩)
    obtain ⟨⟨d, hd⟩, hc⟩ := h.tree
    cases d with
    | zero => exact hd.elim
    | succ d => exact ⟨⟨d + 1, hd.1, hd.2.1, Nat.le_refl _, fun i hi => by simp [Ex.args] at hi⟩, hc⟩

/-- Behind the copy: the row is the part's own. -/
structure Sq (g N : Nat) (zad : Option Addr) (zs : List Int) (zcap : Nat) (Q : Nat → Prop) (B C : Nat) (w W : World) (a : Int) (x : Node) (l : List Ex) (gr cap : Nat) (ts : List (Ex × Option Addr × Nat)) : Prop where
  sp : Sp g N zad zs zcap Q B C w W a x l (some ⟨gr, 0, none⟩) cap
  row : RowY Q B W (.slice (some ⟨gr, 0, none⟩) l.length cap) ts
  map : ts.map (·.1) = l

theorem Sq.turn {gr : Nat} {ts : List (Ex × Option Addr × Nat)} (h : Sq g N zad zs zcap Q B C w W a x l gr cap ts) (ht : Turns g W W') (hl : Live W' g N zad zs zcap b) : Sq g N zad zs zcap Q B C w W' b x l gr cap ts :=
  ⟨h.sp.turn ht hl, h.row.turn h.sp.old (by have := h.sp.size; omega) ht, h.map⟩

theorem Sq.call {gr : Nat} {ts : List (Ex × Option Addr × Nat)} (h : Sq g N zad zs zcap Q B C w W a x l gr cap ts) (hb : Below W.heap.size W W') : Sq g N zad zs zcap Q B C w W' a x l gr cap ts :=
  h.turn (Turns.of hb (Nat.le_of_lt h.sp.live.lt)) (h.sp.live.call hb)

theorem Sq.of {ad' : Option Addr} {cap' : Nat} {ts : List (Ex × Option Addr × Nat)} (h0 : 0 < l.length) (h : Sp g N zad zs zcap Q B C w W a x l ad cap) (hm : ts.map (·.1) = l) (hR : RowY Q B W (.slice ad' l.length cap') ts) (hT : TreeQ (Oldie Q B W) C W (.mk x l) ad' cap') :
    ∃ gr, ad' = some ⟨gr, 0, none⟩ ∧ Sq g N zad zs zcap Q B C w (W.setCell ⟨B, 9, none⟩ (.slice ad' l.length cap')) a x l gr cap' ts := by
  have hlen : ts.length = l.length := by rw [← hm]; simp
  obtain ⟨gr, cap2, hv, _⟩ := hR.lies (by omega)
  injection hv with e1 e2 e3
  subst e1
  exact ⟨gr, rfl, h.args hT, hR.set h.old, hm⟩
end

/-- A call's two blocks, without the tree. -/
structure Sb (g N : Nat) (zad : Option Addr) (zs : List Int) (zcap : Nat) (Q : Nat → Prop) (B : Nat) (w W : World) (a : Int) (x : Node) (v : Value) : Prop where
  live : Live W g N zad zs zcap a
  box : Box W B x v
  res : Box W (B + 1) zeroX (.slice none 0 0)
  turns : Turns g w W
  base : w.heap.size = B
  old : QOk Q g B

section
variable {g N : Nat} {zad : Option Addr} {zs : List Int} {zcap B C : Nat} {Q : Nat → Prop} {w W W' : World} {a b : Int} {x : Node} {l : List Ex} {ad : Option Addr} {cap : Nat} {v : Value}

theorem Sp.bare (h : Sp g N zad zs zcap Q B C w W a x l ad cap) : Sb g N zad zs zcap Q B w W a x (.slice ad l.length cap) := ⟨h.live, h.box, h.res, h.turns, h.base, h.old⟩

theorem Sb.size (h : Sb g N zad zs zcap Q B w W a x v) : B + 2 ≤ W.heap.size := by have := blk_lt h.res; omega

theorem Sb.turn (h : Sb g N zad zs zcap Q B w W a x v) (ht : Turns g W W') (hl : Live W' g N zad zs zcap b) : Sb g N zad zs zcap Q B w W' b x v := by
  have h1 := h.old.glt
  exact ⟨hl, ht.block h.box (by omega), ht.block h.res (by omega), h.turns.trans ht, h.base, h.old⟩

theorem Sb.call (h : Sb g N zad zs zcap Q B w W a x v) (hb : Below W.heap.size W W') : Sb g N zad zs zcap Q B w W' a x v :=
  h.turn (Turns.of hb (Nat.le_of_lt h.live.lt)) (h.live.call hb)

theorem Sb.grown {row : Option Nat} (h : Sb g N zad zs zcap Q B w W a x v) (hg : W.grownBy W' row) (hr : ∀ k, row = some k → B + 2 ≤ k) : Sb g N zad zs zcap Q B w W' a x v := by
  have h1 := h.old.glt
  have hsz := h.size
  have hbase := h.base
  have hb : Below (B + 2) W W' := ⟨hg.os, hg.tape, hg.output, hg.size, fun k hk => hg.block k (by omega) (fun e => by have := hr k e.symm; omega)⟩
  have hle := h.live.le
  exact ⟨⟨(hb.block _ (by omega)).trans h.live.st, h.live.ints.below (hb.mono (by omega)), h.live.le, h.live.len, h.live.pos⟩, (hb.block _ (by omega)).trans h.box, (hb.block _ (by omega)).trans h.res, h.turns.grown hg (fun k hk => by have := hr k hk; omega) (by omega), hbase, h.old⟩

theorem Sb.args {l' : List Ex} {ad' : Option Addr} {cap' m : Nat} (h : Sb g N zad zs zcap Q B w W a x v) (hm : l'.length = m) (ht : TreeQ (Oldie Q B W) C W (.mk x l') ad' cap') : Sp g N zad zs zcap Q B C w (W.setCell ⟨B, 9, none⟩ (.slice ad' m cap')) a x l' ad' cap' := by
  subst hm
  have h1 := h.old.glt
  have hbase := h.base
  exact ⟨h.live.set (by omega), block_set (i := 9) (v := .slice ad' l'.length cap') h.box, (block_set_ne (by omega)).trans h.res, ht.set h.old, h.turns.set (by omega) (by omega), hbase, h.old⟩

/-- The whole part is stored anew. -/
theorem Sb.whole {l' : List Ex} {ad' : Option Addr} {cap' m : Nat} {y : Node} (h : Sb g N zad zs zcap Q B w W a x v) (hm : l'.length = m) (ht : TreeQ (Oldie Q B W) C W (.mk y l') ad' cap') : Sp g N zad zs zcap Q B C w (set13 W B y (.slice ad' m cap')) a y l' ad' cap' := by
  subst hm
  have h1 := h.old.glt
  have hbase := h.base
  refine ⟨h.live.set13 _ _ (by omega), set13_box _ _ h.box, (set13_ne _ _ (by omega)).trans h.res, ?_, h.turns.set13 _ _ (by omega) (by omega), hbase, h.old⟩
  obtain ⟨⟨d, hd⟩, hc⟩ := ht
  exact ⟨⟨d, hd.kept (fun p hp => set13_ne _ _ (hp.ne h.old).2.1) (fun p hp => hp.later (by rw [set13_size]; exact Nat.le_refl _))⟩, hc⟩

theorem TreeQ.one {x y : Node} (hQ : QOk Q g B) (hB : B + 2 ≤ W.heap.size) (h : TreeQ (Oldie Q B W) C W (.mk y l) ad cap) (hx : x.ok) :
    TreeQ (Oldie Q B (W.alloc (.cells (rowC [(.mk y l, ad, cap)]).toArray 57))) (C + 1) (W.alloc (.cells (rowC [(.mk y l, ad, cap)]).toArray 57)) (.mk x [.mk y l]) (some ⟨W.heap.size, 0, none⟩) 1 := by
  obtain ⟨⟨d, hd⟩, hc⟩ := h
  have hsz := ex_alloc_size W (.cells (rowC [(.mk y l, ad, cap)]).toArray 57)
  refine ⟨⟨d + 1, hx, by simp [Ex.args], by simp [Ex.args], fun i hi => ?_⟩, ?_⟩
  · have hi0 : i = 0 := by simp only [Ex.args, List.length_cons, List.length_nil] at hi; omega
    subst hi0
    refine ⟨W.heap.size, 0, ad, cap, rfl, .inr ⟨hB, by omega⟩, ?_, ?_⟩
    · exact rowC_cells (l := [(.mk y l, ad, cap)]) (heap_alloc_new W _) 0 (by simp)
    · exact hd.kept (fun p hp => heap_alloc_old _ _ (hp.lt hQ (by omega))) (fun p hp => hp.later (by omega))
  · simp only [countT, countL] at hc ⊢; omega

theorem countR_len : ∀ ts : List (Ex × Option Addr × Nat), ts.length ≤ countR ts
  | [] => Nat.le_refl _
  | t :: ts => by
    have := countR_len ts
    have h1 : 1 ≤ countT t.1 := by cases t.1; simp only [countT]; omega
    simp only [List.length_cons, countR]; omega

theorem TreeQ.empty {x : Node} {ad' : Option Addr} {cap' : Nat} (h : TreeQ Q C W (.mk x l) ad cap) : TreeQ Q C W (.mk x []) ad' cap' := by
  obtain ⟨⟨d, hd⟩, hc⟩ := h
  cases d with
  | zero => exact hd.elim
  | succ d => exact ⟨⟨d + 1, hd.1, Nat.zero_le _, Nat.zero_le _, fun i hi => by simp [Ex.args] at hi⟩, by simp only [countT, countL] at hc ⊢; omega⟩

theorem RowY.tree2 {ts : List (Ex × Option Addr × Nat)} (h : RowY Q B W v ts) (h1 : ts.length ≤ 1000000) (x : Node) (hx : x.ok) (hC : countR ts + 1 ≤ C) :
    ∃ l' ad cap m, v = .slice ad m cap ∧ l'.length = m ∧ TreeQ (Oldie Q B W) C W (.mk x l') ad cap := by
  obtain ⟨ad, cap, hv, ht⟩ := h.tree h1 x hx hC
  exact ⟨_, ad, cap, ts.length, hv, by simp, ht⟩

theorem Sp.putRow {gr k D : Nat} {l' : List Ex} {y : Node} {u : Value} (h : Sp g N zad zs zcap Q B C w W a x l (some ⟨gr, 0, none⟩) cap) (hge : B + 2 ≤ gr) (hl : l'.length = l.length) (ht : TreeQ (Oldie Q B (put13 W gr k y u)) D (put13 W gr k y u) (.mk x l') (some ⟨gr, 0, none⟩) cap) :
    Sp g N zad zs zcap Q B D w (put13 W gr k y u) a x l' (some ⟨gr, 0, none⟩) cap := by
  have h1 := h.old.glt
  have hbase := h.base
  have hle := h.live.le
  have hb : Below (B + 2) W (put13 W gr k y u) := put13_below _ _ (Below.refl _ _) hge
  have hsz := h.size
  have hbox := (put13_ne (o := k) y u (by omega : B ≠ gr)).trans h.box
  rw [← hl] at hbox
  exact ⟨⟨(put13_ne _ _ (by omega)).trans h.live.st, h.live.ints.below (hb.mono (by omega)), h.live.le, h.live.len, h.live.pos⟩, hbox, (put13_ne _ _ (by omega)).trans h.res, ht,
    ⟨by rw [put13_size]; exact h.turns.size, fun j hj hjg => (put13_ne _ _ (by omega)).trans (h.turns.same j hj hjg), put13_below _ _ h.turns.below (by omega)⟩, hbase, h.old⟩
end

end Go.Proofs
