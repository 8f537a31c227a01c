/- ScalarKinds: value.KindOf is as specified for all expressions, columns and parameters. No condition but that the listed variables of Go's library lie as they are laid. -/
import Derived.Test.YtkpligcifakmjaaGreatDoorS35
import Derived.Test.YtkpligcifakmjaaGreatDoorKoM
import Derived.Test.YtkpligcifakmjaaGreatDoorGate
namespace Go.Proofs
open Go.RowKit Go.Ke

theorem inB_in {c : Int} (h : inB c 1 4 = true) : 0 ≤ c ∧ c ≤ 4 := by
  unfold inB at h
  simp only [Bool.and_eq_true, decide_eq_true_eq] at h
  omega

set_option maxRecDepth 20000 in
set_option maxHeartbeats 1000000 in
theorem Tryz.kindsLaw (zs : List Int) (zad : Option Addr) (zcap : Nat) (w : World) (hz : IntsAt w w.heap.size zad zs) (hl : zs.length ≤ 9223372036854775807) (htab : Lib.TabIs Tryz.prog w "strings.asciiSpace" .u8 Lib.asciiSpaceTab) :
    Calls Tryz.prog 7 #[.slice zad zs.length zcap] w fun e w' => e = .returned (.bool true) ∧ Below w.heap.size w w' := by
  have hA := (Below.refl w.heap.size w).alloc (Nat.le_refl _) (.cells #[.slice zad zs.length zcap, .int .i64 0] 31)
  have hst := heap_alloc_new w (.cells #[.slice zad zs.length zcap, .int .i64 0] 31)
  have hL : Live (w.alloc (.cells #[.slice zad zs.length zcap, .int .i64 0] 31)) w.heap.size w.heap.size zad zs zcap 0 := ⟨hst, hz.below hA, Nat.le_refl _, hl, Int.le_refl _⟩
  have hs0 := ex_alloc_size w (.cells #[.slice zad zs.length zcap, .int .i64 0] 31)
  go_enter Tryz.func7, Tryz.ntmps7
  go_wp2_with fail
  refine (Tryz.s35 hL (by omega)).mono ?_
  rintro e W ⟨cs, ps, t, cad, pad, ad, cc, pc, cap, rfl, hcl, hpl, hck, hpk, hcols, hints, ⟨d, hd⟩, hcnt, hT⟩
  have hB : Below w.heap.size w W := hA.trans hT.below
  have hsz := hT.size
  simp only [Ex.v, Node.v, Node.cells]
  go_upto_region 2 with fail
  have hb1 := (Below.refl W.heap.size W).alloc (Nat.le_refl _) (.cells (t.node.cells (.slice ad t.args.length cap)) 57)
  have hbx := Box.new W t.node (.slice ad t.args.length cap)
  have hs1 := ex_alloc_size W (.cells (t.node.cells (.slice ad t.args.length cap)) 57)
  have hB1 := hB.trans (hb1.mono (by have := hB.size; omega))
  replace hcols := hcols.below hb1
  replace hints := hints.below hb1
  replace hd := hd.below hb1
  unfold Node.cells at hb1 hbx hs1 hB1 hcols hints hd
  generalize World.alloc W (.cells _ 57) = W1 at hb1 hbx hs1 hB1 hcols hints hd ⊢
  replace hs1 : W.heap.size < W1.heap.size := by omega
  have hJ1 : spaceTab W1.heap.size W1 := Lib.tabBelow_of_tabIs (Lib.tabBelow_of_tabIs htab _ hB1)
  obtain ⟨c0, c1, c2, c3, c4, c5, c6, c7, c8, c9, c10, c11, c12⟩ := Box.is (x := t.node) hbx
  go_wp2_with fail
  refine Calls.mono (Tryz.kindOf d t ad cap W.heap.size cs ps cad pad cc pc W1 hd hcols hints (by omega) (by omega) (by omega) (fun h q hq => inB_in (List.all_eq_true.1 h q hq)) (fun q hq => by have := hck q hq; omega) hJ1) ?_
  rintro e W2 ⟨rfl, hb2⟩
  have hbx2 := (hb2.block _ (blk_lt hbx)).trans hbx
  have hs2 := hb2.size
  have hB2 := hB1.trans (hb2.mono (by have := hB1.size; omega))
  replace hcols := hcols.below (hb2.mono (Nat.le_of_lt hs1))
  replace hints := hints.below (hb2.mono (Nat.le_of_lt hs1))
  replace hd := hd.below (hb2.mono (Nat.le_of_lt hs1))
  clear c0 c1 c2 c3 c4 c5 c6 c7 c8 c9 c10 c11 c12 hJ1
  have hJ2 : spaceTab W2.heap.size W2 := Lib.tabBelow_of_tabIs (Lib.tabBelow_of_tabIs htab _ hB2)
  obtain ⟨c0, c1, c2, c3, c4, c5, c6, c7, c8, c9, c10, c11, c12⟩ := Box.is (x := t.node) hbx2
  go_wp2_with fail
  refine Calls.mono (Tryz.scalarKind d t ad cap W.heap.size cs ps cad pad cc pc W2 hd hcols hints (by omega) (by omega) (by omega) (fun h q hq => inB_in (List.all_eq_true.1 h q hq)) (fun q hq => by have := hck q hq; omega) (by omega) hJ2) ?_
  rintro e W3 ⟨rfl, hb3⟩
  have hB3 := hB2.trans (hb3.mono (by have := hB2.size; omega))
  have hko := ko_law cs ps t (fun h q hq => inB_in (List.all_eq_true.1 h q hq)) (fun q hq => by have := hck q hq; omega) (by omega)
  rw [hko]
  clear hko c0 c1 c2 c3 c4 c5 c6 c7 c8 c9 c10 c11 c12 hJ2
  have htab3 := Lib.tabBelow_of_tabIs htab _ hB3
  go_wp2_with fail
  refine Calls.mono (Tryz.values_calls W3 htab3) ?_
  rintro e W4 ⟨rfl, hb4⟩
  have hB4 := hB3.trans (hb4.mono (by have := hB3.size; omega))
  go_wp2_with fail
  go_ret
  exact ⟨rfl, hB4⟩
end Go.Proofs
