/- Of package dumblaw1: what scalar hands back, and what it holds on the way. No condition. -/
import Derived.Test.YtkpligcifakmjaaGreatDoorSca
import Derived.Test.YtkpligcifakmjaaGreatDoorKnM
import Derived.Test.YtkpligcifakmjaaGreatDoorSpo
namespace Go.Proofs
open Go.RowKit Go.Ke

theorem Tryz.scalar0 {P : Pm} (hP : P.ok) : ScC P 0 1 30 59000 := by
  intro W a kind h ha hk1 hk2
  have hg := h.live.lt
  have hS := Sc.start h 0
  unfold zeroX Node.cells at hS
  go_enter Tryz.func79, Tryz.ntmps79
  go_upto_region 1 with fail
  generalize (World.alloc _ (.cells _ 57)) = W0 at hS ⊢
  obtain ⟨q0, q1, q2, q3⟩ := hS.cells
  go_wp2_with fail
  refine Calls.mono (Tryz.leafG hP hS.gen (by omega) kind hk1 hk2) ?_
  rintro e V1 ⟨t, d, c, b, rfl, hX, hb, hL, hT⟩
  have hR := hX.less (D := 1) (by omega) hS.size
  replace hS := hS.turn hT hL
  clear hX hT hL
  have hF := Out.fin (a := a) (K := 30) hS.turns hS.live hR hS.res (Nat.le_add_right _ _) (by omega) hg (by omega)
  obtain ⟨c0, c1, c2, c3, c4, c5, c6, c7, c8, c9, c10, c11, c12⟩ := hS.res.is
  obtain ⟨f0, f1, f2, f3, f4, f5, f6, f7, f8, f9, f10, f11, f12⟩ := hS.res.frozs
  simp only [Ex.v, Node.v, Node.cells] at hF ⊢
  go_wp2_with fail
  exact bodyPost_ret (res_box13 Tryz.results79 rfl hF.2) rfl hF.1

theorem Tryz.scalar1 {P : Pm} (hP : P.ok) : ScC P 1 6 180 58790 := Tryz.scalarG hP (Tryz.scalar0 hP) (by omega) (by omega) (by omega) (by omega) (by omega)
theorem Tryz.scalar2 {P : Pm} (hP : P.ok) : ScC P 2 31 930 57830 := Tryz.scalarG hP (Tryz.scalar1 hP) (by omega) (by omega) (by omega) (by omega) (by omega)
theorem Tryz.scalar3 {P : Pm} (hP : P.ok) : ScC P 3 156 4680 53120 := Tryz.scalarG hP (Tryz.scalar2 hP) (by omega) (by omega) (by omega) (by omega) (by omega)
theorem Tryz.scalar4 {P : Pm} (hP : P.ok) : ScC P 4 781 23430 29660 := Tryz.scalarG hP (Tryz.scalar3 hP) (by omega) (by omega) (by omega) (by omega) (by omega)
end Go.Proofs

namespace Go.Proofs
open Go.RowKit Go.Ke

/-- What scalar hands back. -/
def Told (g : Nat) (w : World) (e : Ending) (W : World) : Prop :=
  ∃ (cs : List Col) (ps : List Int) (t : Ex) (cad pad ad : Option Addr) (cc pc cap : Nat), e = .returned (.tuple #[.slice cad cs.length cc, .slice pad ps.length pc, t.v ad cap]) ∧ cs.length ≤ 4 ∧ ps.length ≤ 4 ∧
    (∀ c ∈ cs, 1 ≤ c.kind ∧ c.kind ≤ 4) ∧ (∀ p ∈ ps, 0 ≤ p ∧ p ≤ 5) ∧ ColsAt W W.heap.size cad cs ∧ IntsAt W W.heap.size pad ps ∧ (∃ d, ExIs d W W.heap.size ad cap t) ∧ countT t ≤ 1000 ∧ Turns g w W

/-- Any level of a tree. -/
theorem Tryz.scalarN {P : Pm} (hP : P.ok) (r : Int) (h0 : 0 ≤ r) (h1 : r < 5) {W : World} {a kind : Int} (h : Gen P W a) (ha : a ≤ 200) (k1 : 1 ≤ kind) (k2 : kind ≤ 4) :
    Calls Tryz.prog 79 #[.pointer (some ⟨P.g, 0, none⟩), .int .i64 kind, .slice P.cad P.cs.length P.cc, .slice P.pad P.ps.length P.pc, .int .i64 r] W (Out P 781 23430 a W) := by
  rcases (by omega : r = 0 ∨ r = 1 ∨ r = 2 ∨ r = 3 ∨ r = 4) with rfl | rfl | rfl | rfl | rfl
  · exact (Tryz.scalar0 hP W a kind h (by omega) k1 k2).mono fun _ _ h => h.wide (by omega) (by omega)
  · exact (Tryz.scalar1 hP W a kind h (by omega) k1 k2).mono fun _ _ h => h.wide (by omega) (by omega)
  · exact (Tryz.scalar2 hP W a kind h (by omega) k1 k2).mono fun _ _ h => h.wide (by omega) (by omega)
  · exact (Tryz.scalar3 hP W a kind h (by omega) k1 k2).mono fun _ _ h => h.wide (by omega) (by omega)
  · exact (Tryz.scalar4 hP W a kind h (by omega) k1 k2).mono fun _ _ h => h.wide (by omega) (by omega)

theorem World.ownsRow.base {w : World} {B L : Nat} {e : TypeId} {size : Nat} {v : Value} {n : Nat} {xs : List Value} (h : w.ownsRow B e size v n xs) (hL : L ≤ B) : w.ownsRow L e size v n xs := by
  refine ⟨h.1, ?_⟩
  rcases h.2 with h2 | ⟨g, cap, cur, h1, h2, h3⟩
  · exact .inl h2
  · exact .inr ⟨g, cap, cur, h1, by omega, h3⟩

/-- Columns, kinds and the tree, the tree's part in block B8; the result's block B4 is still empty. -/
structure Fi (g N : Nat) (zad : Option Addr) (zs : List Int) (zcap L M M2 B8 B4 C : Nat) (w W : World) (a : Int) (cv : Value) (cs : List Col) (pv : Value) (ps : List Int) (t : Ex) (ad : Option Addr) (cap : Nat) : Prop where
  live : Live W g N zad zs zcap a
  cols : W.ownsRow L 75 3 cv cs.length (colsC cs)
  clt : ∀ k, cv.ownBlock = some k → k < M
  pars : W.ownsRow L 3 1 pv ps.length (intCells ps)
  plt : ∀ k, pv.ownBlock = some k → M ≤ k ∧ k < M2
  box : Box W B8 t.node (.slice ad t.args.length cap)
  res : Box W B4 zeroX (.slice none 0 0)
  tree : TreeQ (fun p => (M2 ≤ p ∧ p < W.heap.size) ∧ p ≠ B8) C W t ad cap
  turns : Turns g w W
  g4 : g < w.heap.size
  b4 : B4 < L
  b8 : M2 ≤ B8
  lm : L ≤ M
  lm2 : M ≤ M2
  base : w.heap.size ≤ B4

section
variable {g N : Nat} {zad : Option Addr} {zs : List Int} {zcap L M M2 B8 B4 C : Nat} {w W W' : World} {a b : Int} {cv pv : Value} {cs : List Col} {ps : List Int} {t : Ex} {ad : Option Addr} {cap : Nat}

theorem owns_turn {e size n : Nat} {v : Value} {xs : List Value} (h : W.ownsRow L e size v n xs) (ht : Turns g W W') (hg : g < L) : W'.ownsRow L e size v n xs := by
  refine World.ownsRow.kept (row := some g) h ⟨ht.below.os, ht.below.tape, ht.below.output, ht.size, fun k hk hkg => ht.same k hk (fun e => hkg (by rw [e]))⟩ (.inr fun e => ?_)
  have := (World.ownsRow.lt h g e).1
  omega

theorem Fi.turn (h : Fi g N zad zs zcap L M M2 B8 B4 C w W a cv cs pv ps t ad cap) (ht : Turns g W W') (hl : Live W' g N zad zs zcap b) : Fi g N zad zs zcap L M M2 B8 B4 C w W' b cv cs pv ps t ad cap := by
  obtain ⟨h1, h2, h3, h4, h5, h6, h7, ⟨⟨d, hd⟩, hc⟩, h9, h10, h11, h12, m1, m2, h13⟩ := h
  have hs := ht.size
  exact ⟨hl, owns_turn h2 ht (by omega), h3, owns_turn h4 ht (by omega), h5, ht.block h6 (by omega), ht.block h7 (by omega), ⟨⟨d, hd.kept (fun p hp => ht.same p hp.1.2 (by have := hp.1.1; omega)) (fun p hp => ⟨⟨hp.1.1, by have := hp.1.2; omega⟩, hp.2⟩)⟩, hc⟩, h9.trans ht, h10, h11, h12, m1, m2, h13⟩

theorem Fi.call (h : Fi g N zad zs zcap L M M2 B8 B4 C w W a cv cs pv ps t ad cap) (hb : Below W.heap.size W W') : Fi g N zad zs zcap L M M2 B8 B4 C w W' a cv cs pv ps t ad cap :=
  h.turn (Turns.of hb (Nat.le_of_lt h.live.lt)) (h.live.call hb)

theorem owns_set13 {e size n k : Nat} {v : Value} {xs : List Value} {x : Node} {u : Value} (h : W.ownsRow L e size v n xs) (hk : v.ownBlock ≠ some k) : (set13 W k x u).ownsRow L e size v n xs := by
  have hb := set13_below x u (Below.refl k W) (Nat.le_refl k)
  refine World.ownsRow.kept (row := some k) h ⟨hb.os, hb.tape, hb.output, hb.size, fun j hj hjk => set13_ne _ _ (fun e => hjk (by rw [e]))⟩ (.inr hk)

/-- The tree's part is written anew. -/
theorem Fi.whole {D : Nat} {t' : Ex} {ad' : Option Addr} {cap' : Nat} (h : Fi g N zad zs zcap L M M2 B8 B4 C w W a cv cs pv ps t ad cap) (ht : TreeQ (fun p => (M2 ≤ p ∧ p < W.heap.size) ∧ p ≠ B8) D W t' ad' cap') :
    Fi g N zad zs zcap L M M2 B8 B4 D w (set13 W B8 t'.node (.slice ad' t'.args.length cap')) a cv cs pv ps t' ad' cap' := by
  obtain ⟨h1, h2, h3, h4, h5, h6, h7, _, h9, h10, h11, h12, m1, m2, h13⟩ := h
  obtain ⟨⟨d, hd⟩, hc⟩ := ht
  exact ⟨h1.set13 _ _ (by omega), owns_set13 h2 (fun e => by have := h3 _ e; omega), h3, owns_set13 h4 (fun e => by have := h5 _ e; omega), h5, set13_box _ _ h6, (set13_ne _ _ (by omega)).trans h7,
    ⟨⟨d, hd.kept (fun p hp => set13_ne _ _ hp.2) (fun p hp => by rw [set13_size]; exact hp)⟩, hc⟩, h9.set13 _ _ (by omega) (by omega), h10, h11, h12, m1, m2, h13⟩

theorem Fi.less {D : Nat} (h : Fi g N zad zs zcap L M M2 B8 B4 C w W a cv cs pv ps t ad cap) (hD : C ≤ D) : Fi g N zad zs zcap L M M2 B8 B4 D w W a cv cs pv ps t ad cap := by
  obtain ⟨h1, h2, h3, h4, h5, h6, h7, h8, h9, h10, h11, h12, m1, m2, h13⟩ := h
  exact ⟨h1, h2, h3, h4, h5, h6, h7, h8.less hD, h9, h10, h11, h12, m1, m2, h13⟩

/-- At the start: the tree's part is laid. -/
theorem Fi.start {W0 : World} (hC : Cn g N zad zs zcap L W0 W a cv cs) (hP : IntRow M W pv ps) (hcv : ∀ k, cv.ownBlock = some k → k < M) (hpv : ∀ k, pv.ownBlock = some k → k < M2) (hL : L ≤ M) (hM : M ≤ M2) (ht : TreeAt C M2 W t ad cap) (hR : Box W B4 zeroX (.slice none 0 0)) (hT : Turns g w W) (hg : g < w.heap.size) (hB : B4 < L) (hb : w.heap.size ≤ B4) (hLW : M2 ≤ W.heap.size) :
    Fi g N zad zs zcap L M M2 W.heap.size B4 C w (W.alloc (.cells (t.node.cells (.slice ad t.args.length cap)) 57)) a cv cs pv ps t ad cap := by
  have hal := (Below.refl W.heap.size W).alloc (Nat.le_refl _) (.cells (t.node.cells (.slice ad t.args.length cap)) 57)
  have hsz := ex_alloc_size W (.cells (t.node.cells (.slice ad t.args.length cap)) 57)
  have hC2 := hC.call hal
  have hg2 := hC.live.lt
  have hTa := Turns.of (g := g) hal (by omega)
  have hp2 : (W.alloc (.cells (t.node.cells (.slice ad t.args.length cap)) 57)).ownsRow M 3 1 pv ps.length (intCells ps) := owns_turn hP hTa (by omega)
  obtain ⟨⟨d, hd⟩, hc⟩ := ht
  refine ⟨hC2.live, hC2.row, hcv, World.ownsRow.base hp2 hL, fun k hk => ⟨(World.ownsRow.lt hP k hk).1, hpv k hk⟩, Box.new _ _ _, (heap_alloc_old _ _ (by omega)).trans hR,
    ⟨⟨d, hd.kept (fun p hp => heap_alloc_old _ _ hp.2) (fun p hp => ?_)⟩, hc⟩, hT.trans hTa, hg, hB, hLW, hL, hM, hb⟩
  rw [hsz]
  exact ⟨⟨by omega, by omega⟩, by omega⟩

/-- Spoilt once more. -/
theorem Fi.spoil (h : Fi g N zad zs zcap L M M2 B8 B4 C w W a cv cs pv ps t ad cap) (ha : a + 2 * C ≤ 60000) :
    Calls Tryz.prog 80 #[.pointer (some ⟨g, 0, none⟩), Node.v t.node (.slice ad t.args.length cap)] W fun e W' => ∃ t' ad' cap' b, e = .returned (Ex.v t' ad' cap') ∧ b ≤ a + 2 * C + 40 ∧
      Fi g N zad zs zcap L M M2 B8 B4 C w W' b cv cs pv ps t ad cap ∧ TreeQ (fun p => (M2 ≤ p ∧ p < W'.heap.size) ∧ p ≠ B8) (C + 26) W' t' ad' cap' := by
  have h1 := h.g4
  have h0 := h.base
  have h2 := h.b4
  have h3 := h.b8
  have h5 := h.lm
  have h6 := h.lm2
  have h4 := blk_lt h.box
  refine (Tryz.spoil C h.live h.tree.eta ⟨fun p hp => by have := hp.1.1; omega, fun p hp => hp.1.2, h.live.lt⟩ ha).mono ?_
  rintro e W' ⟨t', ad', cap', b, rfl, ⟨⟨d, hd⟩, hc⟩, hb, hL, hT⟩
  have hs := hT.size
  refine ⟨t', ad', cap', b, rfl, hb, h.turn hT hL, ⟨d, hd.kept (fun _ _ => rfl) (fun p hp => ?_)⟩, hc⟩
  rcases hp with hp | hp
  · exact ⟨⟨hp.1.1, by have := hp.1.2; omega⟩, hp.2⟩
  · exact ⟨⟨by omega, hp.2⟩, by omega⟩

/-- At the end, ahead of the result. -/
structure Fe (g L B8 B4 C : Nat) (w W : World) (cv : Value) (cs : List Col) (pv : Value) (ps : List Int) (t : Ex) (ad : Option Addr) (cap : Nat) : Prop where
  cols : W.ownsRow L 75 3 cv cs.length (colsC cs)
  pars : W.ownsRow L 3 1 pv ps.length (intCells ps)
  box : Box W B8 t.node (.slice ad t.args.length cap)
  res : Box W B4 zeroX (.slice none 0 0)
  tree : TreeQ (fun p => L ≤ p ∧ p < W.heap.size) C W t ad cap
  turns : Turns g w W
  g4 : g < w.heap.size
  b4 : B4 < L
  base : w.heap.size ≤ B4

theorem Fi.fe (h : Fi g N zad zs zcap L M M2 B8 B4 C w W a cv cs pv ps t ad cap) : Fe g L B8 B4 C w W cv cs pv ps t ad cap := by
  obtain ⟨h1, h2, h3, h4, h5, h6, h7, ⟨⟨d, hd⟩, hc⟩, h9, h10, h11, h12, m1, m2, h13⟩ := h
  exact ⟨h2, h4, h6, h7, ⟨⟨d, hd.kept (fun _ _ => rfl) (fun p hp => ⟨by have := hp.1.1; omega, hp.1.2⟩)⟩, hc⟩, h9, h10, h11, h13⟩

theorem Fe.pslice (h : Fe g L B8 B4 C w W cv cs pv ps t ad cap) : ∃ pad pc, pv = .slice pad ps.length pc := by
  rcases h.pars.2 with ⟨hv, hn⟩ | ⟨gr, cap, cur, hv, _⟩
  · exact ⟨none, 0, by rw [hv, hn]⟩
  · exact ⟨some ⟨gr, 0, none⟩, cap, hv⟩

theorem Fe.call (h : Fe g L B8 B4 C w W cv cs pv ps t ad cap) (hb : Below W.heap.size W W') : Fe g L B8 B4 C w W' cv cs pv ps t ad cap := by
  obtain ⟨h2, h4, h6, h7, ⟨⟨d, hd⟩, hc⟩, h9, h10, h11, h13⟩ := h
  have hs := hb.size
  have h6' := blk_lt h6
  have h7' := blk_lt h7
  have hg := h9.size
  have hT := Turns.of (g := g) hb (by omega)
  exact ⟨owns_turn h2 hT (by omega), owns_turn h4 hT (by omega), (hb.block _ h6').trans h6, (hb.block _ h7').trans h7, ⟨⟨d, hd.kept (fun p hp => hb.block p hp.2) (fun p hp => ⟨hp.1, by omega⟩)⟩, hc⟩, h9.trans hT, h10, h11, h13⟩

/-- A kind is appended. -/
theorem append_fi {ops : Array Oper} {rest : List Oper} {o : Oper} {A : Act} {R : Exit → Act → World → Prop} (hgd : o.guard = none) (s x : Operand)
    (ho : o.op = .call { callee := .builtin .append, args := #[s, x], argTypes := #[28, 28] }) (h : Fi g N zad zs zcap L M M2 B8 B4 C w W a cv cs pv ps t ad cap) (c : Int) (hlen : ps.length + 1 ≤ 1000000) (hs : A.eval s = pv)
    (hx : ∃ G, A.eval x = .slice (some ⟨G, 0, none⟩) 1 1 ∧ W.heap.size = G)
    (hK : ∀ v' w', Fe g L B8 B4 C w w' cv cs v' (ps ++ [c]) t ad cap → wpList Tryz.prog ops R rest (A.put o.dst v') w') : wpList Tryz.prog ops R (o :: rest) A (W.alloc (.cells #[.int .i64 c] 3)) := by
  obtain ⟨G, hx, rfl⟩ := hx
  obtain ⟨i, hi, hz, hsi, hb⟩ := info_parts Tryz.info3'
  have hal := (Below.refl W.heap.size W).alloc (Nat.le_refl _) (.cells #[.int .i64 c] 3)
  have hsz := ex_alloc_size W (.cells #[.int .i64 c] 3)
  have hF := h.call hal
  have h4 := blk_lt h.box
  obtain ⟨g1, g2, g3, g4, g5, g6, g7, ⟨⟨d, hd⟩, hc⟩, g9, k1, k2, k3, k4, k5, k6⟩ := hF
  refine wpList_plain hgd fun K hK2 => ?_
  refine wp_append_own2 _ s x 28 ho L 3 i (.int .i64 0) 1 8 Tryz.underlying28 hi hz hsi hb rfl (by decide) pv ps.length (intCells ps) hs g4 ⟨W.heap.size, 0, none⟩ 1 1 [.int .i64 c] hx rfl ?_ ?_ (by decide) (by unfold maxLen; omega) (by omega) (by omega) ?_
  · intro j y hj
    match j, hj with
    | 0, hj => simp at hj; subst hj; simp [Addr.add]
    | (j + 1), hj => simp at hj
  · intro y hy; simp at hy; subst hy; rfl
  · intro v' w' ho' hg hw
    have hsg := hg.size
    refine hK2 _ _ (hK v' w' ⟨?_, ?_, ?_, ?_, ⟨⟨d, hd.kept (fun p hp => hg.block p hp.1.2 (fun e => by have := (g5 p e.symm).2; have := hp.1.1; omega)) (fun p hp => ⟨by have := hp.1.1; omega, by have := hp.1.2; omega⟩)⟩, hc⟩, ?_, k1, k2, k6⟩)
    · refine World.ownsRow.kept g2 hg ?_
      cases hv : cv.ownBlock with
      | none => exact .inl rfl
      | some k => exact .inr (fun e => by have h1 := g3 k hv; have h2 := (g5 k (by rw [e])).1; omega)
    · rw [List.length_append, intCells_snoc]
      exact ho'
    · exact (hg.block _ (by omega) (fun e => by have := (g5 _ e.symm).2; omega)).trans g6
    · exact (hg.block _ (by omega) (fun e => by have := (g5 _ e.symm).1; omega)).trans g7
    · exact g9.grown hg (fun k hk => by have := (g5 k hk).1; omega) (by omega)

/-- The end: the tree's part is written into the result's block. -/
theorem Fe.fin (h : Fe g L B8 B4 C w W cv cs pv ps t ad cap) (hC : C ≤ 1000) (hcs : cs.length ≤ 4) (hps : ps.length ≤ 4) (hck : ∀ c ∈ cs, 1 ≤ c.kind ∧ c.kind ≤ 4) (hpk : ∀ p ∈ ps, 0 ≤ p ∧ p ≤ 5) :
    Told g w (.returned (.tuple #[cv, pv, t.v ad cap])) (set13 W B4 t.node (.slice ad t.args.length cap)) ∧ Box (set13 W B4 t.node (.slice ad t.args.length cap)) B4 t.node (.slice ad t.args.length cap) := by
  obtain ⟨h1, h2, h3, h4, ⟨⟨d, hd⟩, hc⟩, h6, h7, h8, h9⟩ := h
  have c1 := owns_set13 (x := t.node) (u := .slice ad t.args.length cap) h1 (k := B4) (fun e => by have := (World.ownsRow.lt h1 _ e).1; omega)
  have p1 := owns_set13 (x := t.node) (u := .slice ad t.args.length cap) h2 (k := B4) (fun e => by have := (World.ownsRow.lt h2 _ e).1; omega)
  have hTs := h6.set13 (k := B4) t.node (.slice ad t.args.length cap) (by omega) (by omega)
  have hbx := set13_box t.node (.slice ad t.args.length cap) h4
  have hd2 := (hd.kept (w' := set13 W B4 t.node (.slice ad t.args.length cap)) (Q' := fun p => p < (set13 W B4 t.node (.slice ad t.args.length cap)).heap.size) (fun p hp => set13_ne _ _ (by omega)) (fun p hp => by rw [set13_size]; exact hp.2)).is (fun p hp => hp)
  generalize set13 W B4 t.node (.slice ad t.args.length cap) = W2 at *
  have hcols : ∃ cad cc, cv = .slice cad cs.length cc ∧ ColsAt W2 W2.heap.size cad cs := by
    rcases c1.2 with ⟨hv, hn⟩ | ⟨gr, cap, cur, hv, hb, hg, _⟩
    · exact ⟨none, 0, by rw [hv, hn], fun i hi => by omega⟩
    · refine ⟨some ⟨gr, 0, none⟩, cap, hv, fun i hi => ⟨gr, 0, rfl, blk_lt hg, ?_⟩⟩
      have hc := World.ownsRow.cells c1 (g := gr) (by rw [hv]; rfl)
      have ha : ∀ j, (⟨gr, 0, none⟩ : Addr).add j = ⟨gr, 0 + j, none⟩ := fun j => by unfold Addr.add; split <;> simp_all
      obtain ⟨e0, e1, e2⟩ := colsC_at cs i hi
      have c0 := hc _ _ e0
      have c1 := hc _ _ e1
      have c2 := hc _ _ e2
      rw [ha] at c0 c1 c2
      exact ⟨c0, c1, c2⟩
  have hints : ∃ pad pc, pv = .slice pad ps.length pc ∧ IntsAt W2 W2.heap.size pad ps := by
    rcases p1.2 with ⟨hv, hn⟩ | ⟨gr, cap, cur, hv, hb, hg, _⟩
    · exact ⟨none, 0, by rw [hv, hn], fun i hi => by omega⟩
    · refine ⟨some ⟨gr, 0, none⟩, cap, hv, fun i hi => ⟨gr, 0, rfl, blk_lt hg, ?_, by have := hpk _ (List.getElem_mem hi); omega, by have := hpk _ (List.getElem_mem hi); omega⟩⟩
      have hc := World.ownsRow.cells p1 (g := gr) (by rw [hv]; rfl)
      have ha : ∀ j, (⟨gr, 0, none⟩ : Addr).add j = ⟨gr, 0 + j, none⟩ := fun j => by unfold Addr.add; split <;> simp_all
      have c0 := hc i (.int .i64 ps[i]) (by simp [intCells, hi])
      rw [ha] at c0
      exact c0
  obtain ⟨cad, cc, rfl, hcols⟩ := hcols
  obtain ⟨pad, pc, rfl, hints⟩ := hints
  exact ⟨⟨cs, ps, t, cad, pad, ad, cc, pc, cap, rfl, hcs, hps, hck, hpk, hcols, hints, ⟨d, hd2⟩, by omega, hTs⟩, hbx⟩
end

theorem Tryz.res35 {b : Nat} {tmps : Array Value} {W : World} {x : Node} {a v2 v3 : Value} (h4 : tmps.getD 4 undef = .pointer (some ⟨b, 0, none⟩)) (h2 : tmps.getD 2 undef = v2) (h3 : tmps.getD 3 undef = v3) (h : Box W b x a) : (results Tryz.f35 tmps).run Tryz.prog W = .ok (.tuple #[v2, v3, x.v a]) W := by
  obtain ⟨c0, c1, c2, c3, c4, c5, c6, c7, c8, c9, c10, c11, c12⟩ := h.is
  have e4 : tmps[4]?.getD undef = .pointer (some ⟨b, 0, none⟩) := by rw [← Array.getD_eq_getD_getElem?]; exact h4
  have e2 : tmps[2]?.getD undef = v2 := by rw [← Array.getD_eq_getD_getElem?]; exact h2
  have e3 : tmps[3]?.getD undef = v3 := by rw [← Array.getD_eq_getD_getElem?]; exact h3
  unfold results
  rw [Tryz.results35]
  simp [go_sem, e4, e2, e3, c0, c1, c2, c3, c4, c5, c6, c7, c8, c9, c10, c11, c12, Tryz.isAgg57, Tryz.sizeOf57, Node.v, Node.cells, asAddr]
end Go.Proofs
