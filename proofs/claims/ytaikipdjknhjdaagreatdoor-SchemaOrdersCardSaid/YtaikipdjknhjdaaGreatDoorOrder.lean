/- Of package schema: Order. No condition. -/
import Derived.Test.YtaikipdjknhjdaaGreatDoorPick
import Derived.Laws.EntriesVeiled
import Derived.OwnWalk
namespace Go.Proofs
open Go.RowKit Go.Ke Go.Orders

/-- What stays while Order goes on: the schema, its box, the matrix, the closure circle. -/
structure Ord (x : Schema) (b g pc mb : Nat) (rb : Nat → Nat) (R : Mat) (w : World) : Prop where
  at' : x.At w
  box : x.Box b w
  mat : MatAt w mb rb x.n R
  gm : w.heap[g]? = some (.cells #[.slice (some ⟨mb, 0, none⟩) x.n x.n] 52)
  circ : w.heap[pc]? = some (.cells #[.func (.func 13) #[] #[.pointer (some ⟨g, 0, none⟩)]] 55)

theorem Ord.next {x : Schema} {b g pc mb : Nat} {rb : Nat → Nat} {R : Mat} {w w' : World} (h : Ord x b g pc mb rb R w) (hb : Below w.heap.size w w') : Ord x b g pc mb rb R w' :=
  ⟨h.at'.next hb, heap_kept hb h.box, h.mat.next hb, heap_kept hb h.gm, heap_kept hb h.circ⟩

theorem Ord.cells {x : Schema} {b g pc mb : Nat} {rb : Nat → Nat} {R : Mat} {w : World} (h : Ord x b g pc mb rb R w) :
    w.cell? ⟨b, 0, none⟩ = some (.slice (some ⟨x.tb, 0, none⟩) x.n x.cap) ∧ w.cell? ⟨g, 0, none⟩ = some (.slice (some ⟨mb, 0, none⟩) x.n x.n) ∧ w.cell? ⟨pc, 0, none⟩ = some (.func (.func 13) #[] #[.pointer (some ⟨g, 0, none⟩)]) := by
  have h1 := h.box.cell
  unfold Schema.sl at h1
  exact ⟨h1, by simp [World.cell?, h.gm], by simp [World.cell?, h.circ]⟩

/-- A table's box and its cells ahead of it. -/
theorem Ord.table {x : Schema} {b g pc mb : Nat} {rb : Nat → Nat} {R : Mat} {w : World} (h : Ord x b g pc mb rb R w) {i : Nat} (hi : i < x.n) : ∃ ad c, x.F i = .slice ad (x.nf i) c ∧
    w.cell? ⟨x.tb, i * 5, none⟩ = some (.string (nameL i)) ∧ w.cell? ⟨x.tb, i * 5 + 1, none⟩ = some (.slice (some ⟨x.cb i, 0, none⟩) 2 2) ∧ w.cell? ⟨x.tb, i * 5 + 2, none⟩ = some (.slice (some ⟨x.kb i, 0, none⟩) 1 1) ∧ w.cell? ⟨x.tb, i * 5 + 3, none⟩ = some (.slice ad (x.nf i) c) ∧ w.cell? ⟨x.tb, i * 5 + 4, none⟩ = some (.slice none 0 0) := by
  obtain ⟨ad, c, hF, _⟩ := x.F_at i
  refine ⟨ad, c, hF, ?_⟩
  rw [← hF]
  exact h.at'.sch.cell hi

def lenOf : Value → Nat
  | .slice _ n _ => n
  | _ => 0

set_option maxRecDepth 20000 in
set_option maxHeartbeats 4000000 in
theorem Tryz.order {x : Schema} {w : World} (h : x.At w) :
    Calls Tryz.prog 6 #[x.v] w fun e w' => ∃ oa oc ca cc, e = .returned (.tuple #[.slice oa x.n oc, .slice ca (circN (reach x.gs) x.n x.n).length cc, .int .i64 0]) ∧ StrsAt w' oa ((orderN x.gs (reach x.gs) x.n x.n).map nameL) ∧ StrsAt w' ca ((circN (reach x.gs) x.n x.n).map nameL) ∧ Below w.heap.size w w' := by
  have h6 := h.n6
  have hR := h.right
  obtain ⟨c1, hc1, hz1, hk1⟩ := make_cells Tryz.under54 Tryz.info4' rfl h6 (by decide)
  have hw0 : Below w.heap.size w (w.alloc (.cells #[.slice (some ⟨x.tb, 0, none⟩) x.n x.cap] 28)) := (Below.refl _ _).alloc (Nat.le_refl _) _
  have hB : x.Box w.heap.size (w.alloc (.cells #[.slice (some ⟨x.tb, 0, none⟩) x.n x.cap] 28)) := heap_alloc_new' _ _
  have hA1 := h.next hw0
  unfold Schema.v
  go_enter Tryz.func6, Tryz.ntmps6
  go_upto_region 1 with fail
  generalize w.alloc (.cells #[.slice (some ⟨x.tb, 0, none⟩) x.n x.cap] 28) = W1 at hw0 hB hA1 ⊢
  have b0 := hB.cell
  unfold Schema.sl at b0
  have hcs := Tryz.checkSchema hA1
  unfold Schema.v at hcs
  go_wp2_with fail
  refine Calls.mono hcs ?_
  rintro e w2 ⟨rfl, hb2⟩
  clear hcs b0
  have hB2 := heap_kept hb2 hB
  have b0 := (show x.Box _ _ from hB2).cell
  unfold Schema.sl at b0
  have hre := Tryz.reaches (hA1.next hb2)
  unfold Schema.v at hre
  have hA2 := hA1.next hb2
  go_wp2_with fail
  refine Calls.mono hre ?_
  rintro e w3 ⟨mb, rb, rfl, hM3, hb3, -, -⟩
  clear hre b0
  generalize hRe : reach x.gs = R at *
  replace hRe := Lib.hid hRe
  have hb4 : Below w3.heap.size w3 (w3.alloc (.cells #[.slice (some ⟨mb, 0, none⟩) x.n x.n] 52)) := (Below.refl _ _).alloc (Nat.le_refl _) _
  have hg4 : (w3.alloc (.cells #[.slice (some ⟨mb, 0, none⟩) x.n x.n] 52)).heap[w3.heap.size]? = some (.cells #[.slice (some ⟨mb, 0, none⟩) x.n x.n] 52) := heap_alloc_new' _ _
  go_upto_region 5 with fail
  generalize w3.alloc (.cells #[.slice (some ⟨mb, 0, none⟩) x.n x.n] 52) = w4 at hb4 hg4 ⊢
  have hA4 := (hA2.next hb3).next hb4
  have hB4 : x.Box w.heap.size w4 := heap_kept hb4 (heap_kept hb3 hB2)
  have hM4 := hM3.next hb4
  have hw4 := below_next hw0 (below_next hb2 (below_next hb3 hb4))
  generalize w3.heap.size = g at hg4 ⊢
  clear hM3 hb3 hb4 hB2 hb2 hA2 hA1 hB hw0
  have b0 := (show x.Box _ _ from hB4).cell
  unfold Schema.sl at b0
  have hO5 : Ord x w.heap.size g w4.heap.size mb rb R (w4.alloc (.cells #[.func (.func 13) #[] #[.pointer (some ⟨g, 0, none⟩)]] 55)) := by
    have hb : Below w4.heap.size w4 (w4.alloc (.cells #[.func (.func 13) #[] #[.pointer (some ⟨g, 0, none⟩)]] 55)) := (Below.refl _ _).alloc (Nat.le_refl _) _
    exact ⟨hA4.next hb, heap_kept hb hB4, hM4.next hb, heap_kept hb hg4, heap_alloc_new' _ _⟩
  have hw5 := below_next hw4 ((Below.refl w4.heap.size w4).alloc (Nat.le_refl _) (.cells #[.func (.func 13) #[] #[.pointer (some ⟨g, 0, none⟩)]] 55))
  clear hA4 hB4 hM4 hg4
  go_upto_region 7 with fail
  generalize w4.alloc (.cells #[.func (.func 13) #[] #[.pointer (some ⟨g, 0, none⟩)]] 55) = w5 at hO5 hw5 ⊢
  generalize w4.heap.size = pc at hO5 ⊢
  clear b0 hw4
  generalize w.heap.size = b at hO5 ⊢
  obtain ⟨b0, b1, b2⟩ := hO5.cells
  go_wp2_with fail
  go_loopw [10, 32] (fun cv v wr => ∃ i : Nat, v = .int .i64 i ∧ i ≤ x.n ∧ Names w5.heap.size cv (circN R x.n i) w5 wr) (fun _ v _ => x.n - (intOf v).toNat)
  case atStart => exact ⟨0, rfl, Nat.zero_le _, Names.start w5⟩
  case round =>
    obtain ⟨i, rfl, hi, hN⟩ := hrel
    have hOr := hO5.next hN.2.1
    by_cases hin : i < x.n
    · obtain ⟨ad, fc, hF, t0, t1, t2, t3, t4⟩ := hOr.table hin
      have hwA : Below wr.heap.size wr (wr.alloc (.cells #[.string (nameL i), .slice (some ⟨x.cb i, 0, none⟩) 2 2, .slice (some ⟨x.kb i, 0, none⟩) 1 1, .slice ad (x.nf i) fc, .slice none 0 0] 39)) := (Below.refl _ _).alloc (Nat.le_refl _) _
      have hT : (wr.alloc (.cells #[.string (nameL i), .slice (some ⟨x.cb i, 0, none⟩) 2 2, .slice (some ⟨x.kb i, 0, none⟩) 1 1, .slice ad (x.nf i) fc, .slice none 0 0] 39)).cell? ⟨wr.heap.size, 0, none⟩ = some (.string (nameL i)) := by
        unfold World.cell?
        rw [heap_alloc_new']
        rfl
      generalize hs1 : nameL i = s1 at *
      replace hs1 := Lib.hid hs1
      go_upto_region 11 with fail
      generalize wr.alloc (.cells #[.string s1, .slice (some ⟨x.cb i, 0, none⟩) 2 2, .slice (some ⟨x.kb i, 0, none⟩) 1 1, .slice ad (x.nf i) fc, .slice none 0 0] 39) = WA at hwA hT ⊢
      generalize wr.heap.size = c at hT ⊢
      have hOA := hOr.next hwA
      have hNA := hN.call hwA
      clear t0 t1 t2 t3 t4 hN hOr hwA
      obtain ⟨d0, d1, d2⟩ := hOA.cells
      go_wp2_with fail
      go_loop [10, 38] (fun cv v => ∃ j : Nat, v = .int .i64 j ∧ j ≤ x.n ∧ Names w5.heap.size cv (circN R x.n i) w5 WA ∧ Hid (∀ a, a < j → circ R i a = false)) (fun _ v => x.n - (intOf v).toNat)
      case atStart => exact ⟨0, rfl, Nat.zero_le _, hNA, Lib.hid fun a ha => absurd ha (Nat.not_lt_zero a)⟩
      case round =>
        clear hNA
        obtain ⟨j, rfl, hj, hNA, hsp⟩ := hrel
        by_cases hjn : j < x.n
        · have hcc := Tryz.circle hOA.mat d1 h6 hin hjn
          generalize hu : circ R i j = u at hcc
          replace hu := Lib.hid hu
          go_wp2_with fail
          refine Calls.mono hcc ?_
          rintro e w7 ⟨rfl, rfl⟩
          cases u
          · go_wp2_with fail
            go_round
            case rel =>
              refine ⟨j + 1, by go_num, by omega, hNA, Lib.hid fun a ha => ?_⟩
              by_cases e : a = j
              · rw [e]; exact hu.out
              · exact hsp.out a (by omega)
            case measure => simp [intOf]; omega
          · have hlen := circN_len R x.n i
            go_wp2_with (at_builtin; refine append_name ?_ (.tmp 45) (.tmp 48) ?_ hNA i hs1.out.symm ?_ ?_ ?_ ?_; rfl; rfl; omega; rfl; exact ⟨_, rfl, rfl⟩; intro v3 w3 hN3 _)
            go_roundw
            case rel =>
              refine ⟨i + 1, by go_num, by omega, ?_⟩
              rw [circN_next, if_pos (List.any_eq_true.mpr ⟨j, List.mem_range.mpr hjn, hu.out⟩)]
              exact hN3
            case measure => simp [intOf]; omega
        · go_wp2_with fail
          go_roundw
          case rel =>
            refine ⟨i + 1, by go_num, by omega, ?_⟩
            have : (List.range x.n).any (circ R i) = false := List.any_eq_false.mpr fun a ha => by
              rw [hsp.out a (by have := List.mem_range.mp ha; omega)]; decide
            rw [circN_next, this, if_neg (by decide), List.append_nil]
            exact hNA
          case measure => simp [intOf]; omega
    · have hix : i = x.n := by omega
      subst hix
      obtain ⟨ca, cc, rfl, hca⟩ := hN.slice
      generalize hC : circN R x.n x.n = C at *
      replace hC := Lib.hid hC
      have hwr := hN.2.1
      obtain ⟨wo, rfl⟩ : ∃ wo : World, wo = wr := ⟨_, rfl⟩
      clear hN hi hin b0 b1 b2
      obtain ⟨b0, b1, b2⟩ := hOr.cells
      have hwm : Below wo.heap.size wo (wo.alloc (.cells c1 4)) := (Below.refl _ _).alloc (Nat.le_refl _) _
      have hwp : Below wo.heap.size wo ((wo.alloc (.cells c1 4)).alloc (.cells #[.slice (some ⟨wo.heap.size, 0, none⟩) x.n x.n] 54)) := below_next hwm ((Below.refl _ _).alloc (Nat.le_refl _) _)
      have hN0 : Names wo.heap.size (.slice none 0 0) [] wo ((wo.alloc (.cells c1 4)).alloc (.cells #[.slice (some ⟨wo.heap.size, 0, none⟩) x.n x.n] 54)) := (Names.start wo).call hwp
      have hS0 : Bools ((wo.alloc (.cells c1 4)).alloc (.cells #[.slice (some ⟨wo.heap.size, 0, none⟩) x.n x.n] 54)) wo.heap.size x.n (has []) :=
        ⟨c1, (heap_alloc_old _ _ (by rw [ex_alloc_size]; omega)).trans (heap_alloc_new' wo _), hc1, hz1⟩
      have hP0 : ((wo.alloc (.cells c1 4)).alloc (.cells #[.slice (some ⟨wo.heap.size, 0, none⟩) x.n x.n] 54)).heap[wo.heap.size + 1]? = some (.cells #[.slice (some ⟨wo.heap.size, 0, none⟩) x.n x.n] 54) := by
        have := heap_alloc_new' (wo.alloc (.cells c1 4)) (.cells #[.slice (some ⟨wo.heap.size, 0, none⟩) x.n x.n] 54)
        rwa [ex_alloc_size] at this
      have hps : (wo.alloc (.cells c1 4)).heap.size = wo.heap.size + 1 := ex_alloc_size _ _
      go_wp2_with fail
      generalize (wo.alloc (.cells c1 4)).alloc (.cells #[.slice (some ⟨wo.heap.size, 0, none⟩) x.n x.n] 54) = w8 at hwp hN0 hS0 hP0 ⊢
      clear hwm hps hk1 hz1 hc1
      go_loopw [9] (fun ov wr => ∃ m : Nat, m ≤ x.n ∧ Names wo.heap.size ov (orderN x.gs R x.n m) wo wr ∧ Bools wr wo.heap.size x.n (has (orderN x.gs R x.n m)) ∧ wr.heap[wo.heap.size + 1]? = some (.cells #[.slice (some ⟨wo.heap.size, 0, none⟩) x.n x.n] 54)) (fun ov _ => x.n - lenOf ov)
      case atStart => exact ⟨0, Nat.zero_le _, hN0, hS0, hP0⟩
      case round =>
        obtain ⟨m, hm, hN, hS, hP⟩ := hrel
        obtain ⟨wm, rfl⟩ : ∃ wm : World, wm = wr := ⟨_, rfl⟩
        clear hN0 hS0 hP0 hwp
        have hll := Lib.hid (order_len hR m hm)
        have hnx := @order_succ x.gs R x.n m
        have hol := fun a (ha : a ∈ orderN x.gs R x.n m) => order_lt ha
        have hme : m = x.n → orderN x.gs R x.n m = orderN x.gs R x.n x.n := fun e => by rw [e]
        generalize hl : orderN x.gs R x.n m = l at *
        replace hl := Lib.hid hl
        obtain ⟨oa, oc, rfl, hst⟩ := hN.slice
        have hOr2 := hOr.next hN.2.1
        have p0 : wm.cell? ⟨wo.heap.size + 1, 0, none⟩ = some (.slice (some ⟨wo.heap.size, 0, none⟩) x.n x.n) := by simp [World.cell?, hP]
        by_cases hmn : m < x.n
        · obtain ⟨i0, hi0⟩ := order_next hR (l := l) (by have := hll.out; omega)
          have hln : l.length < x.n := by have := hll.out; omega
          obtain ⟨c0, c1', c2⟩ := hOr2.cells
          go_wp2_with fail
          go_loopw [9, 61] (fun ov v wq => ov = .slice oa l.length oc ∧ ∃ i : Nat, v = .int .i64 i ∧ i ≤ x.n ∧ Below wm.heap.size wm wq ∧ Hid (∀ j, j < i → (!has l j && !waits x.gs R (has l) j) = false)) (fun _ v _ => x.n - (intOf v).toNat)
          case atStart => exact ⟨rfl, 0, rfl, Nat.zero_le _, Below.refl _ _, Lib.hid fun j hj => absurd hj (Nat.not_lt_zero j)⟩
          case round =>
            obtain ⟨rfl, i, rfl, hi, hwq, hsp⟩ := hrel
            by_cases hin : i < x.n
            · have hOq := hOr2.next hwq
              obtain ⟨ad, fc, hF, t0, t1, t2, t3, t4⟩ := hOq.table hin
              generalize hs1 : nameL i = s1 at *
              replace hs1 := Lib.hid hs1
              have hbA : Below wr.heap.size wr (wr.alloc (.cells #[.int .i64 i] 3)) := (Below.refl _ _).alloc (Nat.le_refl _) _
              have hwA := below_next hbA ((Below.refl _ _).alloc (Nat.le_refl _) (.cells #[.string s1, .slice (some ⟨x.cb i, 0, none⟩) 2 2, .slice (some ⟨x.kb i, 0, none⟩) 1 1, .slice ad (x.nf i) fc, .slice none 0 0] 39))
              have hsz : (wr.alloc (.cells #[.int .i64 i] 3)).heap.size = wr.heap.size + 1 := ex_alloc_size _ _
              have hpi : ((wr.alloc (.cells #[.int .i64 i] 3)).alloc (.cells #[.string s1, .slice (some ⟨x.cb i, 0, none⟩) 2 2, .slice (some ⟨x.kb i, 0, none⟩) 1 1, .slice ad (x.nf i) fc, .slice none 0 0] 39)).heap[wr.heap.size]? = some (.cells #[.int .i64 i] 3) :=
                (heap_alloc_old _ _ (by omega)).trans (heap_alloc_new' wr _)
              have hTb := heap_alloc_new' (wr.alloc (.cells #[.int .i64 i] 3)) (.cells #[.string s1, .slice (some ⟨x.cb i, 0, none⟩) 2 2, .slice (some ⟨x.kb i, 0, none⟩) 1 1, .slice ad (x.nf i) fc, .slice none 0 0] 39)
              rw [hsz] at hTb
              go_upto_region 23 with fail
              generalize (wr.alloc (.cells #[.int .i64 i] 3)).alloc (.cells #[.string s1, .slice (some ⟨x.cb i, 0, none⟩) 2 2, .slice (some ⟨x.kb i, 0, none⟩) 1 1, .slice ad (x.nf i) fc, .slice none 0 0] 39) = WA at hwA hpi hTb ⊢
              have hwmA := below_next hwq hwA
              have hOA := hOq.next hwA
              have hTA : WA.cell? ⟨wr.heap.size + 1, 3, none⟩ = some (.slice ad (x.nf i) fc) := by simp [World.cell?, hTb]
              have hcon := Tryz.contains15 hOA.at' hin (b := b) (pi := wr.heap.size) (ps := wo.heap.size + 1) (pc := pc) fun k hk W hb => Tryz.waits1 (hOA.next hb).at' (hOA.next hb).box hin hk (st := has l) (R := R) (rb := rb) (g := g) (mb := mb) (sb := wo.heap.size)
                ⟨by have := heap_kept hb hpi; simp [World.cell?, this], by have := heap_kept (below_next hwmA hb) hP; simp [World.cell?, this], fun j hj => ((hS.keep ((below_next hwmA hb).block _ hS.lt)).cell hj).1, (hOA.next hb).cells.2.2, (hOA.next hb).cells.2.1, (hOA.next hb).mat⟩
              rw [← Schema.waits_eq hin, hF] at hcon
              generalize hv : waits x.gs R (has l) i = v at hcon
              generalize hu : has l i = u at *
              replace hu := Lib.hid hu
              replace hv := Lib.hid hv
              go_wp2_with fail
              refine Calls.mono hcon ?_
              rintro e w9 ⟨rfl, hb9⟩
              have hw9 := below_next hwmA hb9
              have hS9 := hS.keep (hw9.block _ hS.lt)
              have hP9 := heap_kept hw9 hP
              have hpi9 := heap_kept hb9 hpi
              have hT9 := heap_kept hb9 hTb
              have hN9 := hN.call hw9
              have q0 : w9.cell? ⟨wo.heap.size + 1, 0, none⟩ = some (.slice (some ⟨wo.heap.size, 0, none⟩) x.n x.n) := by simp [World.cell?, hP9]
              have q1 : w9.cell? ⟨wr.heap.size, 0, none⟩ = some (.int .i64 i) := by simp [World.cell?, hpi9]
              obtain ⟨q2, q3⟩ := hS9.cell hin
              rw [hu.out] at q2
              cases u
              · cases v
                · have hT2 := q3
                  have hNs := hN9.set (g := wo.heap.size) (t := 4) hS9.choose_spec.1 (by decide) (Nat.le_refl _) i (.bool true)
                  have hSs := hS9.set (i := i) (v := true) (g := has (l ++ [i])) (by rw [has_snoc, if_pos rfl]) fun j hj => by rw [has_snoc, if_neg hj]
                  have hPs := (block_set_ne (W := w9) (g := wo.heap.size) (i := i) (v := .bool true) (by omega)).trans hP9
                  have hTs := (block_set_ne (W := w9) (g := wo.heap.size) (i := i) (v := .bool true) (by have := hwq.size; have := hS.lt; omega)).trans hT9
                  go_upto_region 26 with fail
                  generalize w9.setCell ⟨wo.heap.size, i, none⟩ (.bool true) = wB at hNs hSs hPs hTs ⊢
                  have hT0 : wB.cell? ⟨wr.heap.size + 1, 0, none⟩ = some (.string s1) := by simp [World.cell?, hTs]
                  have hNs : Names wo.heap.size (.slice oa l.length oc) l wo wB := hNs
                  go_wp2_with (at_builtin; refine append_name ?_ (.tmp 82) (.tmp 85) ?_ hNs i hs1.out.symm ?_ ?_ ?_ ?_; rfl; rfl; omega; rfl; exact ⟨_, rfl, rfl⟩; intro v3 w3 hN3 hxx)
                  have hm1 := hnx (next_found hin hu.out hv.out fun j hj => hsp.out j hj)
                  have hP3 := (hxx 54 (by decide)).2 _ _ _ hPs
                  have hS3 := hSs.boxes (hxx 4 (by decide))
                  obtain ⟨oa3, oc3, rfl, _⟩ := hN3.slice
                  go_roundw
                  case rel => exact ⟨m + 1, by omega, by rw [hm1]; exact hN3, by rw [hm1]; exact hS3, hP3⟩
                  case measure => simp [lenOf]; omega
                · go_wp2_with fail
                  go_roundw
                  case rel =>
                    refine ⟨rfl, i + 1, by go_num, by omega, below_next hwq (below_next hwA hb9), Lib.hid fun j hj => ?_⟩
                    by_cases e : j = i
                    · rw [e, hv.out]; simp
                    · exact hsp.out j (by omega)
                  case measure => simp [intOf]; omega
              · go_wp2_with fail
                go_roundw
                case rel =>
                  refine ⟨rfl, i + 1, by go_num, by omega, below_next hwq (below_next hwA hb9), Lib.hid fun j hj => ?_⟩
                  by_cases e : j = i
                  · rw [e, hu.out]; rfl
                  · exact hsp.out j (by omega)
                case measure => simp [intOf]; omega
            · exfalso
              have := next_none (gs := x.gs) (R := R) (n := x.n) (st := has l) fun j hj => hsp.out j (by omega)
              rw [hi0] at this
              cases this
        · have hnl : ¬ l.length < x.n := by have := hll.out; omega
          have hlx := Lib.hid (show l.length = x.n by have := hll.out; omega)
          have hmx := Lib.hid (hme (by omega))
          go_wp2_with fail
          go_ret3
          refine ⟨oa, oc, ca, cc, ?_, ?_, ?_, ?_⟩
          · rw [hRe.out, hC.out, ← hlx.out]; rfl
          · rw [hRe.out, ← hmx.out]; exact hst
          · rw [hRe.out, hC.out]; exact hca.next hN.2.1
          · exact below_next hw5 (below_next hwr hN.2.1)

end Go.Proofs
