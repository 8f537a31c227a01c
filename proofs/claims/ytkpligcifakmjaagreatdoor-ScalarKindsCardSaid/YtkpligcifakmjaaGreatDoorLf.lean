/- Of package dumbmake: leaves of trees. No condition. -/
import Derived.Test.YtkpligcifakmjaaGreatDoorNumM
import Derived.Test.YtkpligcifakmjaaGreatDoorRowM
namespace Go.Proofs
open Go.RowKit Go.Ke

/-- A row of leaves. -/
def Leaves (ts : List (Ex × Option Addr × Nat)) : Prop := ∀ t ∈ ts, ∃ x : Node, x.ok ∧ t = (.mk x [], none, 0)

theorem Leaves.snoc {ts : List (Ex × Option Addr × Nat)} (h : Leaves ts) (x : Node) (hx : x.ok) : Leaves (ts ++ [(.mk x [], none, 0)]) := by
  intro t ht
  rw [List.mem_append] at ht
  rcases ht with ht | ht
  · exact h t ht
  · rw [List.mem_singleton] at ht; exact ⟨x, hx, ht⟩

theorem leaf_exQ (Q : Nat → Prop) (W : World) (x : Node) (hx : x.ok) : ExQ Q 1 W none 0 (.mk x []) := ⟨hx, Nat.zero_le _, Nat.le_refl _, fun i hi => by simp [Ex.args] at hi⟩

theorem append_leafX {ops : Array Oper} {rest : List Oper} {o : Oper} {a : Act} {Q : Exit → Act → World → Prop} (hgd : o.guard = none) (s x : Operand)
    (ho : o.op = .call { callee := .builtin .append, args := #[s, x], argTypes := #[53, 53] })
    {L y : Nat} {v : Value} {ts : List (Ex × Option Addr × Nat)} {w0 : World} (hR : RowAt L y w0 v ts) (X : Node) (hX : X.ok) (hlen : ts.length + 1 ≤ 1000000) (hL : L ≤ w0.heap.size) (hy : y < w0.heap.size)
    (hs : a.eval s = v) (hx : ∃ G, a.eval x = .slice (some ⟨G, 0, none⟩) 1 1 ∧ w0.heap.size = G)
    (h : ∀ v' w', RowAt L y w' v' (ts ++ [(.mk X [], none, 0)]) → w0.grownBy w' v.ownBlock → wpList Tryz.prog ops Q rest (a.put o.dst v') w') :
    wpList Tryz.prog ops Q (o :: rest) a (w0.alloc (.cells (X.cells (.slice none 0 0)) 57)) := by
  obtain ⟨G, hx, rfl⟩ := hx
  have hb := (Below.refl w0.heap.size w0).alloc (Nat.le_refl _) (.cells (X.cells (.slice none 0 0)) 57)
  have hsz := ex_alloc_size w0 (.cells (X.cells (.slice none 0 0)) 57)
  refine wpList_plain hgd fun _ hK => wp_append_row s x ho (hR.call hb) hs [(.mk X [], none, 0)] w0.heap.size ?_ hx ?_ (by simp) (by simpa using hlen) (by omega) (by omega) fun v' w' h1 h2 => hK _ _ (h v' w' h1 ⟨h2.os, h2.tape, h2.output, by have := h2.size; omega, fun k hk hkr => (h2.block k (by omega) hkr).trans (heap_alloc_old _ _ hk)⟩)
  · rw [heap_alloc_new]
    simp [rowC, Ex.node, Ex.args]
  · intro t ht
    rw [List.mem_singleton] at ht
    subst ht
    exact ⟨1, leaf_exQ _ _ X hX⟩

/-- Of a generator of leaves on its way. -/
structure Lf (P : Pm) (w W : World) (a : Int) : Prop where
  live : Live W P.g P.N P.zad P.zs P.zcap a
  cols : ColsAt W w.heap.size P.cad P.cs
  pars : IntsNe W w.heap.size P.g P.pad P.ps
  res : Box W w.heap.size zeroX (.slice none 0 0)
  turns : Turns P.g w W
  lt : P.g < w.heap.size

theorem Lf.turn {P : Pm} {w W W' : World} {a b : Int} (h : Lf P w W a) (ht : Turns P.g W W') (hl : Live W' P.g P.N P.zad P.zs P.zcap b) : Lf P w W' b := by
  have := h.lt
  have := h.turns.size
  exact ⟨hl, h.cols.turn h.live.st ht (by omega) (Nat.le_refl _), h.pars.turn ht (by omega) (Nat.le_refl _), ht.block h.res (by omega), h.turns.trans ht, h.lt⟩

theorem Lf.call {P : Pm} {w W W' : World} {a : Int} (h : Lf P w W a) (hb : Below W.heap.size W W') : Lf P w W' a := h.turn (Turns.of hb (Nat.le_of_lt h.live.lt)) (h.live.call hb)

theorem Lf.grown {P : Pm} {w W W' : World} {a : Int} {row : Option Nat} (h : Lf P w W a) (hg : W.grownBy W' row) (hr : ∀ k, row = some k → w.heap.size + 1 ≤ k) : Lf P w W' a := by
  have hlt := h.lt
  have hs := h.turns.size
  have hrs := blk_lt h.res
  have hb : Below (w.heap.size + 1) W W' := ⟨hg.os, hg.tape, hg.output, hg.size, fun k hk => hg.block k (by omega) (fun e => by have := hr k e.symm; omega)⟩
  have hst : Strm W' P.g P.zad P.zs.length P.zcap a := (hb.block _ (by omega)).trans h.live.st
  have hle := h.live.le
  refine ⟨⟨hst, h.live.ints.below (hb.mono (by omega)), h.live.le, h.live.len, h.live.pos⟩, h.cols.below (hb.mono (by omega)), fun j hj => ?_, (hb.block _ (by omega)).trans h.res, ⟨Nat.le_trans hs hg.size, fun k hk hkg => (hb.block k (by omega)).trans (h.turns.same k hk hkg), h.turns.below.trans (hb.mono (by omega))⟩, hlt⟩
  obtain ⟨p, o, h1, h2, h3, h4, h5⟩ := h.pars j hj
  exact ⟨p, o, h1, h2, h3, (hb.cell (p := ⟨p, o + j, none⟩) (by show p < _; omega)).trans h4, h5⟩

theorem Lf.start {P : Pm} {W : World} {a : Int} (h : Gen P W a) : Lf P W (W.alloc (.cells (zeroX.cells (.slice none 0 0)) 57)) a := by
  have hb := (Below.refl W.heap.size W).alloc (Nat.le_refl _) (.cells (zeroX.cells (.slice none 0 0)) 57)
  refine ⟨h.live.call hb, h.cols.below hb, fun j hj => ?_, Box.new _ _ _, Turns.of hb (Nat.le_of_lt h.live.lt), h.live.lt⟩
  obtain ⟨p, o, h1, h2, h3, h4, h5⟩ := h.pars j hj
  exact ⟨p, o, h1, h2, h3, (hb.cell (p := ⟨p, o + j, none⟩) h2).trans h4, h5⟩

theorem RowAt.grows {L y : Nat} {W : World} {v : Value} {ts : List (Ex × Option Addr × Nat)} (h : RowAt L y W v ts) : ∀ k, v.ownBlock = some k → L ≤ k := fun k hk => (h.own.lt k hk).1

/-- What a row of leaves shows at a place. -/
theorem RowAt.leafAt {L y : Nat} {W : World} {v : Value} {ts : List (Ex × Option Addr × Nat)} (h : RowAt L y W v ts) (hl : Leaves ts) (r : Nat) (hr : r < ts.length) :
    ∃ x : Node, x.ok ∧ ∃ gr cap, v = .slice (some ⟨gr, 0, none⟩) ts.length cap ∧ CellsAt W gr (0 + r * 13) x (.slice none 0 0) := by
  obtain ⟨x, hx, he⟩ := hl _ (List.getElem_mem hr)
  rcases h.own.2 with ⟨rfl, hn⟩ | ⟨gr, cap, cur, rfl, _, hg, _, _, _, htake⟩
  · omega
  · refine ⟨x, hx, gr, cap, rfl, ?_⟩
    have e (j : Nat) (hj : j < 13) : W.cell? ⟨gr, 0 + r * 13 + j, none⟩ = (x.cells (.slice none 0 0))[j]? := by
      have hat := rowC_at ts r hr j hj
      rw [he] at hat
      rw [← htake, List.getElem?_take_of_lt (by omega)] at hat
      simp only [World.cell?, hg, Nat.zero_add]
      simpa [Ex.node, Ex.args] using hat
    exact ⟨e 0 (by decide), e 1 (by decide), e 2 (by decide), e 3 (by decide), e 4 (by decide), e 5 (by decide), e 6 (by decide), e 7 (by decide), e 8 (by decide), e 9 (by decide), e 10 (by decide), e 11 (by decide), e 12 (by decide)⟩

set_option maxRecDepth 20000 in
set_option maxHeartbeats 4000000 in
theorem Tryz.leafG {P : Pm} (hP : P.ok) {W : World} {a : Int} (h : Gen P W a) (ha : a ≤ 60000) (kind : Int) (hk1 : 1 ≤ kind) (hk2 : kind ≤ 4) :
    Calls Tryz.prog 112 #[.pointer (some ⟨P.g, 0, none⟩), .int .i64 kind, .slice P.cad P.cs.length P.cc, .slice P.pad P.ps.length P.pc] W (Out P 1 20 a W) := by
  have hg := h.live.lt
  have hcl := hP.cl
  have hpl := hP.pl
  have hF0 := Lf.start h
  have hs0 := ex_alloc_size W (.cells (zeroX.cells (.slice none 0 0)) 57)
  unfold zeroX Node.cells at hF0 hs0
  go_enter Tryz.func112, Tryz.ntmps112
  go_wp2_with fail
  generalize (W.alloc (.cells _ 57)) = W0 at hF0 hs0 ⊢
  replace hs0 : W.heap.size < W0.heap.size := by omega
  go_loopw [9, 16] (fun v i wr => ∃ (k : Nat) (ts : List (Ex × Option Addr × Nat)), i = .int .i64 k ∧ k ≤ P.cs.length ∧ ts.length ≤ k ∧ RowAt (W.heap.size + 1) W.heap.size wr v ts ∧ Leaves ts ∧ Lf P W wr a) (fun _ i _ => P.cs.length - (intOf i).toNat)
  case atStart => exact ⟨0, [], rfl, Nat.zero_le _, Nat.le_refl _, RowAt.nil _ _ _, (by simp [Leaves]), hF0⟩
  case round =>
    obtain ⟨k, ts, rfl, hk, hts, hR, hLv, hF⟩ := hrel
    clear hF0 hs0
    have hrs := blk_lt hF.res
    by_cases hlt : k < P.cs.length
    · obtain ⟨p, o, hpo, hp, d0, d1, d2⟩ := hF.cols k hlt
      obtain ⟨cn1, cn2⟩ := hP.cn _ (List.getElem_mem hlt)
      have hwA := (Below.refl wr.heap.size wr).alloc (Nat.le_refl _) (.cells #[.string P.cs[k].src, .string P.cs[k].name, .int .i64 P.cs[k].kind] 75)
      have hFA := hF.call hwA
      have hRA := hR.call hwA
      have hsA := ex_alloc_size wr (.cells #[.string P.cs[k].src, .string P.cs[k].name, .int .i64 P.cs[k].kind] 75)
      rw [hpo] at *
      generalize P.cs[k] = c at *
      go_wp2_with (first
        | (at_builtin; refine append_leafX ?_ (.tmp 24) (.tmp 30) ?_ hRA ⟨3, 0, 0, 0, 0, ⟨#[]⟩, c.src, c.name, false⟩ ⟨Nat.zero_le _, by show c.src.size ≤ _; omega, by show c.name.size ≤ _; omega⟩ (by omega) (by omega) (by omega) ?_ ?_ ?_; rfl; rfl; rfl; exact ⟨_, rfl, ex_alloc_size _ _⟩; intro v3 w3 hR3 hg3))
      · go_roundw
        case rel => exact ⟨k + 1, _, by go_num, by omega, by simp; omega, hR3, hLv.snoc _ ⟨Nat.zero_le _, by show c.src.size ≤ _; omega, by show c.name.size ≤ _; omega⟩, hFA.grown hg3 hRA.grows⟩
        case measure => simp [intOf]; omega
      · go_roundw
        case rel => exact ⟨k + 1, ts, by go_num, by omega, by omega, hRA, hLv, hFA⟩
        case measure => simp [intOf]; omega
    · have hts2 : ts.length ≤ 100 := by omega
      obtain ⟨wo, rfl⟩ : ∃ wo : World, wo = wr := ⟨_, rfl⟩
      clear hts hk
      go_wp2_with fail
      go_loopw [9, 35] (fun v i wr => ∃ (k : Nat) (ts : List (Ex × Option Addr × Nat)), i = .int .i64 k ∧ k ≤ P.ps.length ∧ ts.length ≤ 100 + k ∧ RowAt (W.heap.size + 1) W.heap.size wr v ts ∧ Leaves ts ∧ Lf P W wr a) (fun _ i _ => P.ps.length - (intOf i).toNat)
      case atStart => exact ⟨0, ts, rfl, Nat.zero_le _, by omega, hR, hLv, hF⟩
      case round =>
        obtain ⟨k2, ts2, rfl, hk2', hts3, hR2, hLv2, hF2⟩ := hrel
        clear hF hR hLv hts2 hrs
        have hrs := blk_lt hF2.res
        by_cases hlt2 : k2 < P.ps.length
        · obtain ⟨p, o, hpo, hp, hpg, d0, _, _⟩ := hF2.pars k2 hlt2
          rw [hpo] at *
          generalize P.ps[k2] = c at *
          go_wp2_with (first
            | (at_builtin; refine append_leafX ?_ (.tmp 43) (.tmp 46) ?_ hR2 ⟨2, 0, k2, 0, 0, ⟨#[]⟩, ⟨#[]⟩, ⟨#[]⟩, false⟩ ⟨Nat.zero_le _, Nat.zero_le _, Nat.zero_le _⟩ (by omega) (by omega) (by omega) ?_ ?_ ?_; rfl; rfl; rfl; exact ⟨_, rfl, rfl⟩; intro v3 w3 hR3 hg3))
          · go_roundw
            case rel => exact ⟨k2 + 1, _, by go_num, by omega, by simp; omega, hR3, hLv2.snoc _ ⟨Nat.zero_le _, Nat.zero_le _, Nat.zero_le _⟩, hF2.grown hg3 hR2.grows⟩
            case measure => simp [intOf]; omega
          · go_roundw
            case rel => exact ⟨k2 + 1, ts2, by go_num, by omega, by omega, hR2, hLv2, hF2⟩
            case measure => simp [intOf]; omega
        · have hts4 : ts2.length ≤ 200 := by omega
          clear hts3 hk2'
          by_cases hn : ts2.length = 0
          · have hts0 : ts2 = [] := List.eq_nil_of_length_eq_zero hn
            subst hts0
            rcases hR2.own.2 with ⟨rfl, _⟩ | ⟨gr, cap, cur, rfl, _⟩
            all_goals
              go_wp2_with fail
              refine (Tryz.valueL hF2.live (by omega) kind ⟨hk1, hk2⟩).mono ?_
              rintro e V6 ⟨x, b6, hx6, hb6, rfl, hL6, hT6⟩
              have hF6 := hF2.turn hT6 hL6
              simp only [Val.v]
              go_wp2_with fail
              refine (Tryz.constant x.k x.n x.s _).mono ?_
              rintro e V7 ⟨rfl, hb7⟩
              have hF7 := hF6.call hb7
              have hfin := Out.fin (a := a) (K := 20) (C := 1) (L := W.heap.size + 1) (t := .mk (leafX x.k x.n x.s) []) (ad := none) (cap := 0) hF7.turns hF7.live (TreeAt.leaf _ _ _ ⟨by show x.s.size ≤ _; omega, Nat.zero_le _, Nat.zero_le _⟩ 1 (Nat.le_refl _)) hF7.res (Nat.le_refl _) (Nat.lt_succ_self _) hg (by omega)
              obtain ⟨c0, c1, c2, c3, c4, c5, c6, c7, c8, c9, c10, c11, c12⟩ := hF7.res.is
              obtain ⟨f0, f1, f2, f3, f4, f5, f6, f7, f8, f9, f10, f11, f12⟩ := hF7.res.frozs
              simp only [Ex.v, Ex.node, Ex.args, List.length_nil, Node.v, Node.cells, leafX] at hfin ⊢
              go_wp2_with fail
              exact bodyPost_ret (res_box13 Tryz.results112 rfl hfin.2) rfl hfin.1
          · rcases hR2.own.2 with ⟨_, h0⟩ | ⟨gr, cap, cur, rfl, _⟩
            · omega
            · have hn2 : (0 : Int) < ts2.length := by omega
              have hn3 : 0 < ts2.length := by omega
              have hn4 : ¬ ((ts2.length : Int) ≤ 0) := by omega
              have hn5 : ts2 ≠ [] := fun e => by rw [e] at hn; exact hn rfl
              go_wp2_with fail
              refine (Tryz.flipL hF2.live (by omega) 3 (by omega) (by omega)).mono ?_
              rintro e V1 ⟨fl, rfl, hL1, hT1⟩
              have hF3 := hF2.turn hT1 hL1
              have hR3 := hR2.turn hT1 (by omega)
              clear hF2 hR2 hL1 hT1 hrs
              cases fl with
              | true =>
                go_wp2_with fail
                refine (Tryz.valueL hF3.live (by omega) kind ⟨hk1, hk2⟩).mono ?_
                rintro e V6 ⟨x, b6, hx6, hb6, rfl, hL6, hT6⟩
                have hF6 := hF3.turn hT6 hL6
                simp only [Val.v]
                go_wp2_with fail
                refine (Tryz.constant x.k x.n x.s _).mono ?_
                rintro e V7 ⟨rfl, hb7⟩
                have hF7 := hF6.call hb7
                have hfin := Out.fin (a := a) (K := 20) (C := 1) (L := W.heap.size + 1) (t := .mk (leafX x.k x.n x.s) []) (ad := none) (cap := 0) hF7.turns hF7.live (TreeAt.leaf _ _ _ ⟨by show x.s.size ≤ _; omega, Nat.zero_le _, Nat.zero_le _⟩ 1 (Nat.le_refl _)) hF7.res (Nat.le_refl _) (Nat.lt_succ_self _) hg (by omega)
                obtain ⟨c0, c1, c2, c3, c4, c5, c6, c7, c8, c9, c10, c11, c12⟩ := hF7.res.is
                obtain ⟨f0, f1, f2, f3, f4, f5, f6, f7, f8, f9, f10, f11, f12⟩ := hF7.res.frozs
                simp only [Ex.v, Ex.node, Ex.args, List.length_nil, Node.v, Node.cells, leafX] at hfin ⊢
                go_wp2_with fail
                exact bodyPost_ret (res_box13 Tryz.results112 rfl hfin.2) rfl hfin.1
              | false =>
                go_wp2_with fail
                refine (Tryz.nextL hF3.live (by omega) ts2.length (by omega) (by omega)).mono ?_
                rintro e V2 ⟨r, hr1, hr2, rfl, hL2, hT2⟩
                obtain ⟨q, rfl⟩ := Int.eq_ofNat_of_zero_le hr1
                have hF4 := hF3.turn hT2 hL2
                have hR4 := hR3.turn hT2 (by omega)
                obtain ⟨x, hx, gr', cap', he, hc⟩ := hR4.leafAt hLv2 q (by omega)
                injection he with he1 he2 he3
                injection he1 with he1
                injection he1 with he1
                subst he1
                obtain ⟨d0, d1, d2, d3, d4, d5, d6, d7, d8, d9, d10, d11, d12⟩ := hc
                simp only [Nat.zero_add] at d0 d1 d2 d3 d4 d5 d6 d7 d8 d9 d10 d11 d12
                have hfin := Out.fin (a := a) (K := 20) (C := 1) (L := W.heap.size + 1) (t := .mk x []) (ad := none) (cap := 0) hF4.turns hF4.live (TreeAt.leaf _ _ x hx 1 (Nat.le_refl _)) hF4.res (Nat.le_refl _) (Nat.lt_succ_self _) hg (by omega)
                obtain ⟨c0, c1, c2, c3, c4, c5, c6, c7, c8, c9, c10, c11, c12⟩ := hF4.res.is
                obtain ⟨f0, f1, f2, f3, f4, f5, f6, f7, f8, f9, f10, f11, f12⟩ := hF4.res.frozs
                simp only [Ex.v, Ex.node, Ex.args, List.length_nil, Node.v, Node.cells] at hfin
                clear hR4 hR3 hF3 he2 he3
                go_wp2_with fail
                exact bodyPost_ret (res_box13 Tryz.results112 rfl hfin.2) rfl hfin.1
end Go.Proofs
