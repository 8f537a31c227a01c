/- Of the document's package: the kind of an operation. The condition: the library's table of white space. -/
import Derived.Test.YtkpligcifakmjaaGreatDoorOpn
import Derived.Test.YtkpligcifakmjaaGreatDoorIntM
import Derived.Test.YtkpligcifakmjaaGreatDoorSumK
import Derived.Deep.RegionHeld3
namespace Go.Proofs
open Go.RowKit Go.Ke

def opKR (op n : Int) (l : List Int) : Int × Bool :=
  if op == 1 then isR l [1] 1
  else if (op == 2) || (op == 3) then isR l [1, 1] 1
  else if decide (op ≤ 10) then (1, (fitsF 0 l).2)
  else if op == 11 then (1, true)
  else if decide (op ≤ 16) then sumR op (l.getD 0 0) (l.getD 1 0)
  else if op == 17 then isR l [2] 2
  else if op == 18 then isR l [3, 3] 3
  else if op == 19 then isR l [3, 3] 1
  else if decide (op ≤ 21) then isR l [3] 3
  else if op == 22 then isR l [3] 2
  else if op == 23 then isR l [3, 2, 2] 3
  else if op == 24 then fitsF 0 l
  else if op == 25 then isR l [4] 4
  else if op == 26 then isR l [4] 2
  else (n, (l.getD 0 0 == 0) || canB (l.getD 0 0) n)

def kindsOk (l : List Int) : Prop := ∀ k ∈ l, 0 ≤ k ∧ k ≤ 4

theorem three_call {W w1 w2 : World} {g p o : Nat} {x y z : Value} (hg : g < W.heap.size) (hp : p < W.heap.size)
    (h : w1.cell? ⟨g, 0, none⟩ = some x ∧ w1.cell? ⟨p, o, none⟩ = some y ∧ w1.cell? ⟨p, o + 1, none⟩ = some z ∧ Below W.heap.size W w1) (hb : Below w1.heap.size w1 w2) :
    w2.cell? ⟨g, 0, none⟩ = some x ∧ w2.cell? ⟨p, o, none⟩ = some y ∧ w2.cell? ⟨p, o + 1, none⟩ = some z ∧ Below W.heap.size W w2 := by
  obtain ⟨h1, h2, h3, h4⟩ := h
  have hs := h4.size
  exact ⟨(hb.cell (p := ⟨g, 0, none⟩) (by show g < _; omega)).trans h1, (hb.cell (p := ⟨p, o, none⟩) (by show p < _; omega)).trans h2, (hb.cell (p := ⟨p, o + 1, none⟩) (by show p < _; omega)).trans h3, h4.trans (hb.mono hs)⟩

theorem two_laid (w : World) (x : Node) (v : Value) (b : Obj) : Below w.heap.size w ((w.alloc (.cells (x.cells v) 57)).alloc b) ∧ Box ((w.alloc (.cells (x.cells v) 57)).alloc b) w.heap.size x v ∧ ((w.alloc (.cells (x.cells v) 57)).alloc b).heap[w.heap.size + 1]? = some b ∧ w.heap.size + 1 < ((w.alloc (.cells (x.cells v) 57)).alloc b).heap.size := by
  have h1 := ex_alloc_size w (.cells (x.cells v) 57)
  refine ⟨((Below.refl _ _).alloc (Nat.le_refl _) _).alloc (by omega) _, (heap_alloc_old _ _ (by omega)).trans (Box.new _ _ _), ?_, by rw [ex_alloc_size]; omega⟩
  rw [← h1]; exact heap_alloc_new _ _

set_option maxRecDepth 20000 in
set_option maxHeartbeats 1000000 in
theorem Tryz.opKind_1 (k nn vk vn : Int) (vs src name : ByteArray) (dist : Bool) (ea : Value) (l : List Int) (ad : Option Addr) (cl N : Nat) (w : World) (hl : IntsAt w N ad l) (hN : N ≤ w.heap.size) (hm : 1 ≤ l.length) (hll : l.length ≤ 1000000000) (_hr : kindsOk l) (hJ : spaceTab w.heap.size w) :
    Calls Tryz.prog 128 #[Node.v ⟨k, 1, nn, vk, vn, vs, src, name, dist⟩ ea, .slice ad l.length cl] w fun e w' => e = .returned (.tuple #[.int .i64 (opKR 1 nn l).1, .bool (opKR 1 nn l).2]) ∧ Below w.heap.size w w' := by
  have hspec : opKR 1 nn l = isR l [1] 1 := by simp [opKR]
  rw [hspec]
  clear hspec
  obtain ⟨hw0, hB0, hF, hs0⟩ := two_laid w ⟨k, 1, nn, vk, vn, vs, src, name, dist⟩ ea (.cells #[.slice ad l.length cl] 28)
  unfold Node.v
  go_enter Tryz.func128, Tryz.ntmps128
  go_upto_region 1 with fail
  generalize World.alloc (World.alloc w _) _ = W1 at hB0 hw0 hs0 hF ⊢
  have hJ1 : spaceTab W1.heap.size W1 := Lib.tabBelow_of_tabIs (hJ.on hw0).here
  have cF : W1.cell? ⟨w.heap.size + 1, 0, none⟩ = some (.slice ad l.length cl) := by simp [World.cell?, hF]
  obtain ⟨c0, c1, c2, c3, c4, c5, c6, c7, c8, c9, c10, c11, c12⟩ := hB0.is
  simp only at c0 c1 c2 c3 c4 c5 c6 c7 c8
  have hl1 : IntsAt W1 N ad l := hl.below (hw0.mono hN)
  have hbA : Below W1.heap.size W1 (W1.alloc (.cells #[.int .i64 1] 3)) := (Below.refl _ _).alloc (Nat.le_refl _) _
  have hsA := ex_alloc_size W1 (.cells #[.int .i64 1] 3)
  have hk := Tryz.isF 1 l [1] ad (some ⟨W1.heap.size, 0, none⟩) cl 1 (w.heap.size + 1) N (W1.heap.size + 1) _ (hl1.below (hbA.mono (by omega))) (ints1 W1 1 (by omega)) (by omega) (by omega) (by simp; omega) hll (by decide) ((hbA.block _ (by omega)).trans hF)
  go_wp2_with (first | (go_at_call 167; refine hk.mono ?_; rintro e w' ⟨rfl, hb⟩))
  go_ret2
  exact ⟨rfl, below_next hw0 (hbA.trans (hb.mono hbA.size))⟩

set_option maxRecDepth 20000 in
set_option maxHeartbeats 1000000 in
theorem Tryz.opKind_2 (k nn vk vn : Int) (vs src name : ByteArray) (dist : Bool) (ea : Value) (l : List Int) (ad : Option Addr) (cl N : Nat) (w : World) (hl : IntsAt w N ad l) (hN : N ≤ w.heap.size) (hm : 2 ≤ l.length) (hll : l.length ≤ 1000000000) (_hr : kindsOk l) (hJ : spaceTab w.heap.size w) :
    Calls Tryz.prog 128 #[Node.v ⟨k, 2, nn, vk, vn, vs, src, name, dist⟩ ea, .slice ad l.length cl] w fun e w' => e = .returned (.tuple #[.int .i64 (opKR 2 nn l).1, .bool (opKR 2 nn l).2]) ∧ Below w.heap.size w w' := by
  have hspec : opKR 2 nn l = isR l [1, 1] 1 := by simp [opKR]
  rw [hspec]
  clear hspec
  obtain ⟨hw0, hB0, hF, hs0⟩ := two_laid w ⟨k, 2, nn, vk, vn, vs, src, name, dist⟩ ea (.cells #[.slice ad l.length cl] 28)
  unfold Node.v
  go_enter Tryz.func128, Tryz.ntmps128
  go_upto_region 1 with fail
  generalize World.alloc (World.alloc w _) _ = W1 at hB0 hw0 hs0 hF ⊢
  have hJ1 : spaceTab W1.heap.size W1 := Lib.tabBelow_of_tabIs (hJ.on hw0).here
  have cF : W1.cell? ⟨w.heap.size + 1, 0, none⟩ = some (.slice ad l.length cl) := by simp [World.cell?, hF]
  obtain ⟨c0, c1, c2, c3, c4, c5, c6, c7, c8, c9, c10, c11, c12⟩ := hB0.is
  simp only at c0 c1 c2 c3 c4 c5 c6 c7 c8
  have hl1 : IntsAt W1 N ad l := hl.below (hw0.mono hN)
  have hbA : Below W1.heap.size W1 (W1.alloc (.cells #[.int .i64 1, .int .i64 1] 3)) := (Below.refl _ _).alloc (Nat.le_refl _) _
  have hsA := ex_alloc_size W1 (.cells #[.int .i64 1, .int .i64 1] 3)
  have hk := Tryz.isF 1 l [1, 1] ad (some ⟨W1.heap.size, 0, none⟩) cl 2 (w.heap.size + 1) N (W1.heap.size + 1) _ (hl1.below (hbA.mono (by omega))) (ints2 W1 1 1 (by omega) (by omega)) (by omega) (by omega) (by simp; omega) hll (by decide) ((hbA.block _ (by omega)).trans hF)
  go_wp2_with (first | (go_at_call 167; refine hk.mono ?_; rintro e w' ⟨rfl, hb⟩))
  go_ret2
  exact ⟨rfl, below_next hw0 (hbA.trans (hb.mono hbA.size))⟩

set_option maxRecDepth 20000 in
set_option maxHeartbeats 1000000 in
theorem Tryz.opKind_3 (k nn vk vn : Int) (vs src name : ByteArray) (dist : Bool) (ea : Value) (l : List Int) (ad : Option Addr) (cl N : Nat) (w : World) (hl : IntsAt w N ad l) (hN : N ≤ w.heap.size) (hm : 2 ≤ l.length) (hll : l.length ≤ 1000000000) (_hr : kindsOk l) (hJ : spaceTab w.heap.size w) :
    Calls Tryz.prog 128 #[Node.v ⟨k, 3, nn, vk, vn, vs, src, name, dist⟩ ea, .slice ad l.length cl] w fun e w' => e = .returned (.tuple #[.int .i64 (opKR 3 nn l).1, .bool (opKR 3 nn l).2]) ∧ Below w.heap.size w w' := by
  have hspec : opKR 3 nn l = isR l [1, 1] 1 := by simp [opKR]
  rw [hspec]
  clear hspec
  obtain ⟨hw0, hB0, hF, hs0⟩ := two_laid w ⟨k, 3, nn, vk, vn, vs, src, name, dist⟩ ea (.cells #[.slice ad l.length cl] 28)
  unfold Node.v
  go_enter Tryz.func128, Tryz.ntmps128
  go_upto_region 1 with fail
  generalize World.alloc (World.alloc w _) _ = W1 at hB0 hw0 hs0 hF ⊢
  have hJ1 : spaceTab W1.heap.size W1 := Lib.tabBelow_of_tabIs (hJ.on hw0).here
  have cF : W1.cell? ⟨w.heap.size + 1, 0, none⟩ = some (.slice ad l.length cl) := by simp [World.cell?, hF]
  obtain ⟨c0, c1, c2, c3, c4, c5, c6, c7, c8, c9, c10, c11, c12⟩ := hB0.is
  simp only at c0 c1 c2 c3 c4 c5 c6 c7 c8
  have hl1 : IntsAt W1 N ad l := hl.below (hw0.mono hN)
  have hbA : Below W1.heap.size W1 (W1.alloc (.cells #[.int .i64 1, .int .i64 1] 3)) := (Below.refl _ _).alloc (Nat.le_refl _) _
  have hsA := ex_alloc_size W1 (.cells #[.int .i64 1, .int .i64 1] 3)
  have hk := Tryz.isF 1 l [1, 1] ad (some ⟨W1.heap.size, 0, none⟩) cl 2 (w.heap.size + 1) N (W1.heap.size + 1) _ (hl1.below (hbA.mono (by omega))) (ints2 W1 1 1 (by omega) (by omega)) (by omega) (by omega) (by simp; omega) hll (by decide) ((hbA.block _ (by omega)).trans hF)
  go_wp2_with (first | (go_at_call 167; refine hk.mono ?_; rintro e w' ⟨rfl, hb⟩))
  go_ret2
  exact ⟨rfl, below_next hw0 (hbA.trans (hb.mono hbA.size))⟩

set_option maxRecDepth 20000 in
set_option maxHeartbeats 1000000 in
theorem Tryz.opKind_4 (op k nn vk vn : Int) (vs src name : ByteArray) (dist : Bool) (ea : Value) (l : List Int) (ad : Option Addr) (cl N : Nat) (w : World) (hop : 4 ≤ op ∧ op ≤ 10) (hl : IntsAt w N ad l) (hN : N ≤ w.heap.size) (_hm : 0 ≤ l.length) (hll : l.length ≤ 1000000000) (_hr : kindsOk l) (hJ : spaceTab w.heap.size w) :
    Calls Tryz.prog 128 #[Node.v ⟨k, op, nn, vk, vn, vs, src, name, dist⟩ ea, .slice ad l.length cl] w fun e w' => e = .returned (.tuple #[.int .i64 (opKR op nn l).1, .bool (opKR op nn l).2]) ∧ Below w.heap.size w w' := by
  have hspec : opKR op nn l = (1, (fitsF 0 l).2) := by rcases (by omega : op = 4 ∨ op = 5 ∨ op = 6 ∨ op = 7 ∨ op = 8 ∨ op = 9 ∨ op = 10) with rfl | rfl | rfl | rfl | rfl | rfl | rfl <;> simp [opKR]
  rw [hspec]
  clear hspec
  rcases (by omega : op = 4 ∨ op = 5 ∨ op = 6 ∨ op = 7 ∨ op = 8 ∨ op = 9 ∨ op = 10) with rfl | rfl | rfl | rfl | rfl | rfl | rfl
  all_goals
    obtain ⟨hw0, hB0, hF, hs0⟩ := two_laid w ⟨k, _, nn, vk, vn, vs, src, name, dist⟩ ea (.cells #[.slice ad l.length cl] 28)
    unfold Node.v
    go_enter Tryz.func128, Tryz.ntmps128
    go_upto_region 1 with fail
    generalize World.alloc (World.alloc w _) _ = W1 at hB0 hw0 hs0 hF ⊢
    have hJ1 : spaceTab W1.heap.size W1 := Lib.tabBelow_of_tabIs (hJ.on hw0).here
    have cF : W1.cell? ⟨w.heap.size + 1, 0, none⟩ = some (.slice ad l.length cl) := by simp [World.cell?, hF]
    obtain ⟨c0, c1, c2, c3, c4, c5, c6, c7, c8, c9, c10, c11, c12⟩ := hB0.is
    simp only at c0 c1 c2 c3 c4 c5 c6 c7 c8
    have hk := Tryz.fitsR l ad cl W1 N (hl.below (hw0.mono hN)) hll
    go_wp2_with (first | (go_at_call 168; refine hk.mono ?_; rintro e w' ⟨rfl, rfl⟩))
    go_ret2
    exact ⟨rfl, hw0⟩

set_option maxRecDepth 20000 in
set_option maxHeartbeats 1000000 in
theorem Tryz.opKind_11 (k nn vk vn : Int) (vs src name : ByteArray) (dist : Bool) (ea : Value) (l : List Int) (ad : Option Addr) (cl N : Nat) (w : World) (_hl : IntsAt w N ad l) (_hN : N ≤ w.heap.size) (_hm : 0 ≤ l.length) (_hll : l.length ≤ 1000000000) (_hr : kindsOk l) (hJ : spaceTab w.heap.size w) :
    Calls Tryz.prog 128 #[Node.v ⟨k, 11, nn, vk, vn, vs, src, name, dist⟩ ea, .slice ad l.length cl] w fun e w' => e = .returned (.tuple #[.int .i64 (opKR 11 nn l).1, .bool (opKR 11 nn l).2]) ∧ Below w.heap.size w w' := by
  have hspec : opKR 11 nn l = (1, true) := by simp [opKR]
  rw [hspec]
  clear hspec
  obtain ⟨hw0, hB0, hF, hs0⟩ := two_laid w ⟨k, 11, nn, vk, vn, vs, src, name, dist⟩ ea (.cells #[.slice ad l.length cl] 28)
  unfold Node.v
  go_enter Tryz.func128, Tryz.ntmps128
  go_upto_region 1 with fail
  generalize World.alloc (World.alloc w _) _ = W1 at hB0 hw0 hs0 hF ⊢
  have hJ1 : spaceTab W1.heap.size W1 := Lib.tabBelow_of_tabIs (hJ.on hw0).here
  have cF : W1.cell? ⟨w.heap.size + 1, 0, none⟩ = some (.slice ad l.length cl) := by simp [World.cell?, hF]
  obtain ⟨c0, c1, c2, c3, c4, c5, c6, c7, c8, c9, c10, c11, c12⟩ := hB0.is
  simp only at c0 c1 c2 c3 c4 c5 c6 c7 c8
  go_wp2_with fail
  go_ret2
  exact ⟨rfl, hw0⟩

set_option maxRecDepth 20000 in
set_option maxHeartbeats 1000000 in
theorem Tryz.opKind_12 (op k nn vk vn : Int) (vs src name : ByteArray) (dist : Bool) (ea : Value) (l : List Int) (ad : Option Addr) (cl N : Nat) (w : World) (hop : 12 ≤ op ∧ op ≤ 16) (hl : IntsAt w N ad l) (hN : N ≤ w.heap.size) (hm : 2 ≤ l.length) (hll : l.length ≤ 1000000000) (hr : kindsOk l) (hJ : spaceTab w.heap.size w) :
    Calls Tryz.prog 128 #[Node.v ⟨k, op, nn, vk, vn, vs, src, name, dist⟩ ea, .slice ad l.length cl] w fun e w' => e = .returned (.tuple #[.int .i64 (opKR op nn l).1, .bool (opKR op nn l).2]) ∧ Below w.heap.size w w' := by
  obtain ⟨p, o, rfl, hp, c, _, _⟩ := hl 0 (by omega)
  obtain ⟨q, r, he, hq, d, _, _⟩ := hl 1 (by omega)
  simp only [Option.some.injEq, Addr.mk.injEq, and_true] at he
  obtain ⟨rfl, rfl⟩ := he
  have e0 : l.getD 0 0 = l[0] := by rw [List.getD_eq_getElem?_getD, List.getElem?_eq_getElem (by omega)]; rfl
  have e1 : l.getD 1 0 = l[1] := by rw [List.getD_eq_getElem?_getD, List.getElem?_eq_getElem (by omega)]; rfl
  have hspec : opKR op nn l = sumR op l[0] l[1] := by rcases (by omega : op = 12 ∨ op = 13 ∨ op = 14 ∨ op = 15 ∨ op = 16) with rfl | rfl | rfl | rfl | rfl <;> (unfold opKR; rw [e0, e1]; simp)
  rw [hspec]
  have hr0 := hr _ (List.getElem_mem (show 0 < l.length by omega))
  have hr1 := hr _ (List.getElem_mem (show 1 < l.length by omega))
  clear hspec e0 e1 hl hr
  have hl0 : 0 < l.length := by omega
  have hl1 : (1 : Int) < l.length := by omega
  generalize l[0] = a at *
  generalize l[1] = b at *
  rw [Nat.add_zero] at c
  rcases (by omega : op = 12 ∨ op = 13 ∨ op = 14 ∨ op = 15 ∨ op = 16) with rfl | rfl | rfl | rfl | rfl
  all_goals
    obtain ⟨hw0, hB0, hF, hs0⟩ := two_laid w ⟨k, _, nn, vk, vn, vs, src, name, dist⟩ ea (.cells #[.slice (some ⟨p, o, none⟩) l.length cl] 28)
    unfold Node.v
    go_enter Tryz.func128, Tryz.ntmps128
    go_upto_region 1 with fail
    generalize World.alloc (World.alloc w _) _ = W1 at hB0 hw0 hs0 hF ⊢
    have hJ1 : spaceTab W1.heap.size W1 := Lib.tabBelow_of_tabIs (hJ.on hw0).here
    have cF : W1.cell? ⟨w.heap.size + 1, 0, none⟩ = some (.slice (some ⟨p, o, none⟩) l.length cl) := by simp [World.cell?, hF]
    obtain ⟨c0, c1, c2, c3, c4, c5, c6, c7, c8, c9, c10, c11, c12⟩ := hB0.is
    simp only at c0 c1 c2 c3 c4 c5 c6 c7 c8
    have c : W1.cell? ⟨p, o, none⟩ = some (.int .i64 a) := (hw0.cell (p := ⟨p, o, none⟩) (Nat.lt_of_lt_of_le hp hN)).trans c
    have d : W1.cell? ⟨p, o + 1, none⟩ = some (.int .i64 b) := (hw0.cell (p := ⟨p, o + 1, none⟩) (Nat.lt_of_lt_of_le hp hN)).trans d
    have hJ2 : spaceTab W1.drew.heap.size W1.drew := hJ1.on (Below.refl W1.heap.size W1).drew
    have hgF : w.heap.size + 1 < W1.heap.size := hs0
    have hpF : p < W1.heap.size := Nat.lt_of_lt_of_le hp (by omega)
    go_wp2_with fail
    go_region_held3 (fun w' => w'.cell? ⟨w.heap.size + 1, 0, none⟩ = some (.slice (some ⟨p, o, none⟩) l.length cl) ∧ w'.cell? ⟨p, o, none⟩ = some (.int .i64 a) ∧ w'.cell? ⟨p, o + 1, none⟩ = some (.int .i64 b) ∧ Below W1.heap.size W1 w')
      (first | exact ⟨cF, c, d, (Below.refl _ _).drew⟩ | exact three_call hgF hpF (by assumption) (by assumption))
      (first
      | (go_at_call 169; refine (Tryz.sumKind _ a b _ hop hr0 hr1 hJ2).mono ?_; rintro e w2 ⟨rfl, hb2⟩))
    rename_i hheld
    have hk : Below W1.heap.size W1 w2 := hheld.2.2.2
    clear hheld
    go_wp2_with fail
    go_ret2
    exact ⟨rfl, below_next hw0 hk⟩

set_option maxRecDepth 20000 in
set_option maxHeartbeats 1000000 in
theorem Tryz.opKind_17 (k nn vk vn : Int) (vs src name : ByteArray) (dist : Bool) (ea : Value) (l : List Int) (ad : Option Addr) (cl N : Nat) (w : World) (hl : IntsAt w N ad l) (hN : N ≤ w.heap.size) (hm : 1 ≤ l.length) (hll : l.length ≤ 1000000000) (_hr : kindsOk l) (hJ : spaceTab w.heap.size w) :
    Calls Tryz.prog 128 #[Node.v ⟨k, 17, nn, vk, vn, vs, src, name, dist⟩ ea, .slice ad l.length cl] w fun e w' => e = .returned (.tuple #[.int .i64 (opKR 17 nn l).1, .bool (opKR 17 nn l).2]) ∧ Below w.heap.size w w' := by
  have hspec : opKR 17 nn l = isR l [2] 2 := by simp [opKR]
  rw [hspec]
  clear hspec
  obtain ⟨hw0, hB0, hF, hs0⟩ := two_laid w ⟨k, 17, nn, vk, vn, vs, src, name, dist⟩ ea (.cells #[.slice ad l.length cl] 28)
  unfold Node.v
  go_enter Tryz.func128, Tryz.ntmps128
  go_upto_region 1 with fail
  generalize World.alloc (World.alloc w _) _ = W1 at hB0 hw0 hs0 hF ⊢
  have hJ1 : spaceTab W1.heap.size W1 := Lib.tabBelow_of_tabIs (hJ.on hw0).here
  have cF : W1.cell? ⟨w.heap.size + 1, 0, none⟩ = some (.slice ad l.length cl) := by simp [World.cell?, hF]
  obtain ⟨c0, c1, c2, c3, c4, c5, c6, c7, c8, c9, c10, c11, c12⟩ := hB0.is
  simp only at c0 c1 c2 c3 c4 c5 c6 c7 c8
  have hl1 : IntsAt W1 N ad l := hl.below (hw0.mono hN)
  have hbA : Below W1.heap.size W1 (W1.alloc (.cells #[.int .i64 2] 3)) := (Below.refl _ _).alloc (Nat.le_refl _) _
  have hsA := ex_alloc_size W1 (.cells #[.int .i64 2] 3)
  have hk := Tryz.isF 2 l [2] ad (some ⟨W1.heap.size, 0, none⟩) cl 1 (w.heap.size + 1) N (W1.heap.size + 1) _ (hl1.below (hbA.mono (by omega))) (ints1 W1 2 (by omega)) (by omega) (by omega) (by simp; omega) hll (by decide) ((hbA.block _ (by omega)).trans hF)
  go_wp2_with (first | (go_at_call 167; refine hk.mono ?_; rintro e w' ⟨rfl, hb⟩))
  go_ret2
  exact ⟨rfl, below_next hw0 (hbA.trans (hb.mono hbA.size))⟩

set_option maxRecDepth 20000 in
set_option maxHeartbeats 1000000 in
theorem Tryz.opKind_18 (k nn vk vn : Int) (vs src name : ByteArray) (dist : Bool) (ea : Value) (l : List Int) (ad : Option Addr) (cl N : Nat) (w : World) (hl : IntsAt w N ad l) (hN : N ≤ w.heap.size) (hm : 2 ≤ l.length) (hll : l.length ≤ 1000000000) (_hr : kindsOk l) (hJ : spaceTab w.heap.size w) :
    Calls Tryz.prog 128 #[Node.v ⟨k, 18, nn, vk, vn, vs, src, name, dist⟩ ea, .slice ad l.length cl] w fun e w' => e = .returned (.tuple #[.int .i64 (opKR 18 nn l).1, .bool (opKR 18 nn l).2]) ∧ Below w.heap.size w w' := by
  have hspec : opKR 18 nn l = isR l [3, 3] 3 := by simp [opKR]
  rw [hspec]
  clear hspec
  obtain ⟨hw0, hB0, hF, hs0⟩ := two_laid w ⟨k, 18, nn, vk, vn, vs, src, name, dist⟩ ea (.cells #[.slice ad l.length cl] 28)
  unfold Node.v
  go_enter Tryz.func128, Tryz.ntmps128
  go_upto_region 1 with fail
  generalize World.alloc (World.alloc w _) _ = W1 at hB0 hw0 hs0 hF ⊢
  have hJ1 : spaceTab W1.heap.size W1 := Lib.tabBelow_of_tabIs (hJ.on hw0).here
  have cF : W1.cell? ⟨w.heap.size + 1, 0, none⟩ = some (.slice ad l.length cl) := by simp [World.cell?, hF]
  obtain ⟨c0, c1, c2, c3, c4, c5, c6, c7, c8, c9, c10, c11, c12⟩ := hB0.is
  simp only at c0 c1 c2 c3 c4 c5 c6 c7 c8
  have hl1 : IntsAt W1 N ad l := hl.below (hw0.mono hN)
  have hbA : Below W1.heap.size W1 (W1.alloc (.cells #[.int .i64 3, .int .i64 3] 3)) := (Below.refl _ _).alloc (Nat.le_refl _) _
  have hsA := ex_alloc_size W1 (.cells #[.int .i64 3, .int .i64 3] 3)
  have hk := Tryz.isF 3 l [3, 3] ad (some ⟨W1.heap.size, 0, none⟩) cl 2 (w.heap.size + 1) N (W1.heap.size + 1) _ (hl1.below (hbA.mono (by omega))) (ints2 W1 3 3 (by omega) (by omega)) (by omega) (by omega) (by simp; omega) hll (by decide) ((hbA.block _ (by omega)).trans hF)
  go_wp2_with (first | (go_at_call 167; refine hk.mono ?_; rintro e w' ⟨rfl, hb⟩))
  go_ret2
  exact ⟨rfl, below_next hw0 (hbA.trans (hb.mono hbA.size))⟩

set_option maxRecDepth 20000 in
set_option maxHeartbeats 1000000 in
theorem Tryz.opKind_19 (k nn vk vn : Int) (vs src name : ByteArray) (dist : Bool) (ea : Value) (l : List Int) (ad : Option Addr) (cl N : Nat) (w : World) (hl : IntsAt w N ad l) (hN : N ≤ w.heap.size) (hm : 2 ≤ l.length) (hll : l.length ≤ 1000000000) (_hr : kindsOk l) (hJ : spaceTab w.heap.size w) :
    Calls Tryz.prog 128 #[Node.v ⟨k, 19, nn, vk, vn, vs, src, name, dist⟩ ea, .slice ad l.length cl] w fun e w' => e = .returned (.tuple #[.int .i64 (opKR 19 nn l).1, .bool (opKR 19 nn l).2]) ∧ Below w.heap.size w w' := by
  have hspec : opKR 19 nn l = isR l [3, 3] 1 := by simp [opKR]
  rw [hspec]
  clear hspec
  obtain ⟨hw0, hB0, hF, hs0⟩ := two_laid w ⟨k, 19, nn, vk, vn, vs, src, name, dist⟩ ea (.cells #[.slice ad l.length cl] 28)
  unfold Node.v
  go_enter Tryz.func128, Tryz.ntmps128
  go_upto_region 1 with fail
  generalize World.alloc (World.alloc w _) _ = W1 at hB0 hw0 hs0 hF ⊢
  have hJ1 : spaceTab W1.heap.size W1 := Lib.tabBelow_of_tabIs (hJ.on hw0).here
  have cF : W1.cell? ⟨w.heap.size + 1, 0, none⟩ = some (.slice ad l.length cl) := by simp [World.cell?, hF]
  obtain ⟨c0, c1, c2, c3, c4, c5, c6, c7, c8, c9, c10, c11, c12⟩ := hB0.is
  simp only at c0 c1 c2 c3 c4 c5 c6 c7 c8
  have hl1 : IntsAt W1 N ad l := hl.below (hw0.mono hN)
  have hbA : Below W1.heap.size W1 (W1.alloc (.cells #[.int .i64 3, .int .i64 3] 3)) := (Below.refl _ _).alloc (Nat.le_refl _) _
  have hsA := ex_alloc_size W1 (.cells #[.int .i64 3, .int .i64 3] 3)
  have hk := Tryz.isF 1 l [3, 3] ad (some ⟨W1.heap.size, 0, none⟩) cl 2 (w.heap.size + 1) N (W1.heap.size + 1) _ (hl1.below (hbA.mono (by omega))) (ints2 W1 3 3 (by omega) (by omega)) (by omega) (by omega) (by simp; omega) hll (by decide) ((hbA.block _ (by omega)).trans hF)
  go_wp2_with (first | (go_at_call 167; refine hk.mono ?_; rintro e w' ⟨rfl, hb⟩))
  go_ret2
  exact ⟨rfl, below_next hw0 (hbA.trans (hb.mono hbA.size))⟩

set_option maxRecDepth 20000 in
set_option maxHeartbeats 1000000 in
theorem Tryz.opKind_20 (k nn vk vn : Int) (vs src name : ByteArray) (dist : Bool) (ea : Value) (l : List Int) (ad : Option Addr) (cl N : Nat) (w : World) (hl : IntsAt w N ad l) (hN : N ≤ w.heap.size) (hm : 1 ≤ l.length) (hll : l.length ≤ 1000000000) (_hr : kindsOk l) (hJ : spaceTab w.heap.size w) :
    Calls Tryz.prog 128 #[Node.v ⟨k, 20, nn, vk, vn, vs, src, name, dist⟩ ea, .slice ad l.length cl] w fun e w' => e = .returned (.tuple #[.int .i64 (opKR 20 nn l).1, .bool (opKR 20 nn l).2]) ∧ Below w.heap.size w w' := by
  have hspec : opKR 20 nn l = isR l [3] 3 := by simp [opKR]
  rw [hspec]
  clear hspec
  obtain ⟨hw0, hB0, hF, hs0⟩ := two_laid w ⟨k, 20, nn, vk, vn, vs, src, name, dist⟩ ea (.cells #[.slice ad l.length cl] 28)
  unfold Node.v
  go_enter Tryz.func128, Tryz.ntmps128
  go_upto_region 1 with fail
  generalize World.alloc (World.alloc w _) _ = W1 at hB0 hw0 hs0 hF ⊢
  have hJ1 : spaceTab W1.heap.size W1 := Lib.tabBelow_of_tabIs (hJ.on hw0).here
  have cF : W1.cell? ⟨w.heap.size + 1, 0, none⟩ = some (.slice ad l.length cl) := by simp [World.cell?, hF]
  obtain ⟨c0, c1, c2, c3, c4, c5, c6, c7, c8, c9, c10, c11, c12⟩ := hB0.is
  simp only at c0 c1 c2 c3 c4 c5 c6 c7 c8
  have hl1 : IntsAt W1 N ad l := hl.below (hw0.mono hN)
  have hbA : Below W1.heap.size W1 (W1.alloc (.cells #[.int .i64 3] 3)) := (Below.refl _ _).alloc (Nat.le_refl _) _
  have hsA := ex_alloc_size W1 (.cells #[.int .i64 3] 3)
  have hk := Tryz.isF 3 l [3] ad (some ⟨W1.heap.size, 0, none⟩) cl 1 (w.heap.size + 1) N (W1.heap.size + 1) _ (hl1.below (hbA.mono (by omega))) (ints1 W1 3 (by omega)) (by omega) (by omega) (by simp; omega) hll (by decide) ((hbA.block _ (by omega)).trans hF)
  go_wp2_with (first | (go_at_call 167; refine hk.mono ?_; rintro e w' ⟨rfl, hb⟩))
  go_ret2
  exact ⟨rfl, below_next hw0 (hbA.trans (hb.mono hbA.size))⟩

set_option maxRecDepth 20000 in
set_option maxHeartbeats 1000000 in
theorem Tryz.opKind_21 (k nn vk vn : Int) (vs src name : ByteArray) (dist : Bool) (ea : Value) (l : List Int) (ad : Option Addr) (cl N : Nat) (w : World) (hl : IntsAt w N ad l) (hN : N ≤ w.heap.size) (hm : 1 ≤ l.length) (hll : l.length ≤ 1000000000) (_hr : kindsOk l) (hJ : spaceTab w.heap.size w) :
    Calls Tryz.prog 128 #[Node.v ⟨k, 21, nn, vk, vn, vs, src, name, dist⟩ ea, .slice ad l.length cl] w fun e w' => e = .returned (.tuple #[.int .i64 (opKR 21 nn l).1, .bool (opKR 21 nn l).2]) ∧ Below w.heap.size w w' := by
  have hspec : opKR 21 nn l = isR l [3] 3 := by simp [opKR]
  rw [hspec]
  clear hspec
  obtain ⟨hw0, hB0, hF, hs0⟩ := two_laid w ⟨k, 21, nn, vk, vn, vs, src, name, dist⟩ ea (.cells #[.slice ad l.length cl] 28)
  unfold Node.v
  go_enter Tryz.func128, Tryz.ntmps128
  go_upto_region 1 with fail
  generalize World.alloc (World.alloc w _) _ = W1 at hB0 hw0 hs0 hF ⊢
  have hJ1 : spaceTab W1.heap.size W1 := Lib.tabBelow_of_tabIs (hJ.on hw0).here
  have cF : W1.cell? ⟨w.heap.size + 1, 0, none⟩ = some (.slice ad l.length cl) := by simp [World.cell?, hF]
  obtain ⟨c0, c1, c2, c3, c4, c5, c6, c7, c8, c9, c10, c11, c12⟩ := hB0.is
  simp only at c0 c1 c2 c3 c4 c5 c6 c7 c8
  have hl1 : IntsAt W1 N ad l := hl.below (hw0.mono hN)
  have hbA : Below W1.heap.size W1 (W1.alloc (.cells #[.int .i64 3] 3)) := (Below.refl _ _).alloc (Nat.le_refl _) _
  have hsA := ex_alloc_size W1 (.cells #[.int .i64 3] 3)
  have hk := Tryz.isF 3 l [3] ad (some ⟨W1.heap.size, 0, none⟩) cl 1 (w.heap.size + 1) N (W1.heap.size + 1) _ (hl1.below (hbA.mono (by omega))) (ints1 W1 3 (by omega)) (by omega) (by omega) (by simp; omega) hll (by decide) ((hbA.block _ (by omega)).trans hF)
  go_wp2_with (first | (go_at_call 167; refine hk.mono ?_; rintro e w' ⟨rfl, hb⟩))
  go_ret2
  exact ⟨rfl, below_next hw0 (hbA.trans (hb.mono hbA.size))⟩

set_option maxRecDepth 20000 in
set_option maxHeartbeats 1000000 in
theorem Tryz.opKind_22 (k nn vk vn : Int) (vs src name : ByteArray) (dist : Bool) (ea : Value) (l : List Int) (ad : Option Addr) (cl N : Nat) (w : World) (hl : IntsAt w N ad l) (hN : N ≤ w.heap.size) (hm : 1 ≤ l.length) (hll : l.length ≤ 1000000000) (_hr : kindsOk l) (hJ : spaceTab w.heap.size w) :
    Calls Tryz.prog 128 #[Node.v ⟨k, 22, nn, vk, vn, vs, src, name, dist⟩ ea, .slice ad l.length cl] w fun e w' => e = .returned (.tuple #[.int .i64 (opKR 22 nn l).1, .bool (opKR 22 nn l).2]) ∧ Below w.heap.size w w' := by
  have hspec : opKR 22 nn l = isR l [3] 2 := by simp [opKR]
  rw [hspec]
  clear hspec
  obtain ⟨hw0, hB0, hF, hs0⟩ := two_laid w ⟨k, 22, nn, vk, vn, vs, src, name, dist⟩ ea (.cells #[.slice ad l.length cl] 28)
  unfold Node.v
  go_enter Tryz.func128, Tryz.ntmps128
  go_upto_region 1 with fail
  generalize World.alloc (World.alloc w _) _ = W1 at hB0 hw0 hs0 hF ⊢
  have hJ1 : spaceTab W1.heap.size W1 := Lib.tabBelow_of_tabIs (hJ.on hw0).here
  have cF : W1.cell? ⟨w.heap.size + 1, 0, none⟩ = some (.slice ad l.length cl) := by simp [World.cell?, hF]
  obtain ⟨c0, c1, c2, c3, c4, c5, c6, c7, c8, c9, c10, c11, c12⟩ := hB0.is
  simp only at c0 c1 c2 c3 c4 c5 c6 c7 c8
  have hl1 : IntsAt W1 N ad l := hl.below (hw0.mono hN)
  have hbA : Below W1.heap.size W1 (W1.alloc (.cells #[.int .i64 3] 3)) := (Below.refl _ _).alloc (Nat.le_refl _) _
  have hsA := ex_alloc_size W1 (.cells #[.int .i64 3] 3)
  have hk := Tryz.isF 2 l [3] ad (some ⟨W1.heap.size, 0, none⟩) cl 1 (w.heap.size + 1) N (W1.heap.size + 1) _ (hl1.below (hbA.mono (by omega))) (ints1 W1 3 (by omega)) (by omega) (by omega) (by simp; omega) hll (by decide) ((hbA.block _ (by omega)).trans hF)
  go_wp2_with (first | (go_at_call 167; refine hk.mono ?_; rintro e w' ⟨rfl, hb⟩))
  go_ret2
  exact ⟨rfl, below_next hw0 (hbA.trans (hb.mono hbA.size))⟩

set_option maxRecDepth 20000 in
set_option maxHeartbeats 1000000 in
theorem Tryz.opKind_23 (k nn vk vn : Int) (vs src name : ByteArray) (dist : Bool) (ea : Value) (l : List Int) (ad : Option Addr) (cl N : Nat) (w : World) (hl : IntsAt w N ad l) (hN : N ≤ w.heap.size) (hm : 3 ≤ l.length) (hll : l.length ≤ 1000000000) (_hr : kindsOk l) (hJ : spaceTab w.heap.size w) :
    Calls Tryz.prog 128 #[Node.v ⟨k, 23, nn, vk, vn, vs, src, name, dist⟩ ea, .slice ad l.length cl] w fun e w' => e = .returned (.tuple #[.int .i64 (opKR 23 nn l).1, .bool (opKR 23 nn l).2]) ∧ Below w.heap.size w w' := by
  have hspec : opKR 23 nn l = isR l [3, 2, 2] 3 := by simp [opKR]
  rw [hspec]
  clear hspec
  obtain ⟨hw0, hB0, hF, hs0⟩ := two_laid w ⟨k, 23, nn, vk, vn, vs, src, name, dist⟩ ea (.cells #[.slice ad l.length cl] 28)
  unfold Node.v
  go_enter Tryz.func128, Tryz.ntmps128
  go_upto_region 1 with fail
  generalize World.alloc (World.alloc w _) _ = W1 at hB0 hw0 hs0 hF ⊢
  have hJ1 : spaceTab W1.heap.size W1 := Lib.tabBelow_of_tabIs (hJ.on hw0).here
  have cF : W1.cell? ⟨w.heap.size + 1, 0, none⟩ = some (.slice ad l.length cl) := by simp [World.cell?, hF]
  obtain ⟨c0, c1, c2, c3, c4, c5, c6, c7, c8, c9, c10, c11, c12⟩ := hB0.is
  simp only at c0 c1 c2 c3 c4 c5 c6 c7 c8
  have hl1 : IntsAt W1 N ad l := hl.below (hw0.mono hN)
  have hbA : Below W1.heap.size W1 (W1.alloc (.cells #[.int .i64 3, .int .i64 2, .int .i64 2] 3)) := (Below.refl _ _).alloc (Nat.le_refl _) _
  have hsA := ex_alloc_size W1 (.cells #[.int .i64 3, .int .i64 2, .int .i64 2] 3)
  have hk := Tryz.isF 3 l [3, 2, 2] ad (some ⟨W1.heap.size, 0, none⟩) cl 3 (w.heap.size + 1) N (W1.heap.size + 1) _ (hl1.below (hbA.mono (by omega))) (ints3 W1 3 2 2 (by omega) (by omega) (by omega)) (by omega) (by omega) (by simp; omega) hll (by decide) ((hbA.block _ (by omega)).trans hF)
  go_wp2_with (first | (go_at_call 167; refine hk.mono ?_; rintro e w' ⟨rfl, hb⟩))
  go_ret2
  exact ⟨rfl, below_next hw0 (hbA.trans (hb.mono hbA.size))⟩

set_option maxRecDepth 20000 in
set_option maxHeartbeats 1000000 in
theorem Tryz.opKind_24 (k nn vk vn : Int) (vs src name : ByteArray) (dist : Bool) (ea : Value) (l : List Int) (ad : Option Addr) (cl N : Nat) (w : World) (hl : IntsAt w N ad l) (hN : N ≤ w.heap.size) (_hm : 0 ≤ l.length) (hll : l.length ≤ 1000000000) (_hr : kindsOk l) (hJ : spaceTab w.heap.size w) :
    Calls Tryz.prog 128 #[Node.v ⟨k, 24, nn, vk, vn, vs, src, name, dist⟩ ea, .slice ad l.length cl] w fun e w' => e = .returned (.tuple #[.int .i64 (opKR 24 nn l).1, .bool (opKR 24 nn l).2]) ∧ Below w.heap.size w w' := by
  have hspec : opKR 24 nn l = fitsF 0 l := by simp [opKR]
  rw [hspec]
  clear hspec
  obtain ⟨hw0, hB0, hF, hs0⟩ := two_laid w ⟨k, 24, nn, vk, vn, vs, src, name, dist⟩ ea (.cells #[.slice ad l.length cl] 28)
  unfold Node.v
  go_enter Tryz.func128, Tryz.ntmps128
  go_upto_region 1 with fail
  generalize World.alloc (World.alloc w _) _ = W1 at hB0 hw0 hs0 hF ⊢
  have hJ1 : spaceTab W1.heap.size W1 := Lib.tabBelow_of_tabIs (hJ.on hw0).here
  have cF : W1.cell? ⟨w.heap.size + 1, 0, none⟩ = some (.slice ad l.length cl) := by simp [World.cell?, hF]
  obtain ⟨c0, c1, c2, c3, c4, c5, c6, c7, c8, c9, c10, c11, c12⟩ := hB0.is
  simp only at c0 c1 c2 c3 c4 c5 c6 c7 c8
  have hk := Tryz.fitsR l ad cl W1 N (hl.below (hw0.mono hN)) hll
  go_wp2_with (first | (go_at_call 168; refine hk.mono ?_; rintro e w' ⟨rfl, rfl⟩))
  go_ret2
  exact ⟨rfl, hw0⟩

set_option maxRecDepth 20000 in
set_option maxHeartbeats 1000000 in
theorem Tryz.opKind_25 (k nn vk vn : Int) (vs src name : ByteArray) (dist : Bool) (ea : Value) (l : List Int) (ad : Option Addr) (cl N : Nat) (w : World) (hl : IntsAt w N ad l) (hN : N ≤ w.heap.size) (hm : 1 ≤ l.length) (hll : l.length ≤ 1000000000) (_hr : kindsOk l) (hJ : spaceTab w.heap.size w) :
    Calls Tryz.prog 128 #[Node.v ⟨k, 25, nn, vk, vn, vs, src, name, dist⟩ ea, .slice ad l.length cl] w fun e w' => e = .returned (.tuple #[.int .i64 (opKR 25 nn l).1, .bool (opKR 25 nn l).2]) ∧ Below w.heap.size w w' := by
  have hspec : opKR 25 nn l = isR l [4] 4 := by simp [opKR]
  rw [hspec]
  clear hspec
  obtain ⟨hw0, hB0, hF, hs0⟩ := two_laid w ⟨k, 25, nn, vk, vn, vs, src, name, dist⟩ ea (.cells #[.slice ad l.length cl] 28)
  unfold Node.v
  go_enter Tryz.func128, Tryz.ntmps128
  go_upto_region 1 with fail
  generalize World.alloc (World.alloc w _) _ = W1 at hB0 hw0 hs0 hF ⊢
  have hJ1 : spaceTab W1.heap.size W1 := Lib.tabBelow_of_tabIs (hJ.on hw0).here
  have cF : W1.cell? ⟨w.heap.size + 1, 0, none⟩ = some (.slice ad l.length cl) := by simp [World.cell?, hF]
  obtain ⟨c0, c1, c2, c3, c4, c5, c6, c7, c8, c9, c10, c11, c12⟩ := hB0.is
  simp only at c0 c1 c2 c3 c4 c5 c6 c7 c8
  have hl1 : IntsAt W1 N ad l := hl.below (hw0.mono hN)
  have hbA : Below W1.heap.size W1 (W1.alloc (.cells #[.int .i64 4] 3)) := (Below.refl _ _).alloc (Nat.le_refl _) _
  have hsA := ex_alloc_size W1 (.cells #[.int .i64 4] 3)
  have hk := Tryz.isF 4 l [4] ad (some ⟨W1.heap.size, 0, none⟩) cl 1 (w.heap.size + 1) N (W1.heap.size + 1) _ (hl1.below (hbA.mono (by omega))) (ints1 W1 4 (by omega)) (by omega) (by omega) (by simp; omega) hll (by decide) ((hbA.block _ (by omega)).trans hF)
  go_wp2_with (first | (go_at_call 167; refine hk.mono ?_; rintro e w' ⟨rfl, hb⟩))
  go_ret2
  exact ⟨rfl, below_next hw0 (hbA.trans (hb.mono hbA.size))⟩

set_option maxRecDepth 20000 in
set_option maxHeartbeats 1000000 in
theorem Tryz.opKind_26 (k nn vk vn : Int) (vs src name : ByteArray) (dist : Bool) (ea : Value) (l : List Int) (ad : Option Addr) (cl N : Nat) (w : World) (hl : IntsAt w N ad l) (hN : N ≤ w.heap.size) (hm : 1 ≤ l.length) (hll : l.length ≤ 1000000000) (_hr : kindsOk l) (hJ : spaceTab w.heap.size w) :
    Calls Tryz.prog 128 #[Node.v ⟨k, 26, nn, vk, vn, vs, src, name, dist⟩ ea, .slice ad l.length cl] w fun e w' => e = .returned (.tuple #[.int .i64 (opKR 26 nn l).1, .bool (opKR 26 nn l).2]) ∧ Below w.heap.size w w' := by
  have hspec : opKR 26 nn l = isR l [4] 2 := by simp [opKR]
  rw [hspec]
  clear hspec
  obtain ⟨hw0, hB0, hF, hs0⟩ := two_laid w ⟨k, 26, nn, vk, vn, vs, src, name, dist⟩ ea (.cells #[.slice ad l.length cl] 28)
  unfold Node.v
  go_enter Tryz.func128, Tryz.ntmps128
  go_upto_region 1 with fail
  generalize World.alloc (World.alloc w _) _ = W1 at hB0 hw0 hs0 hF ⊢
  have hJ1 : spaceTab W1.heap.size W1 := Lib.tabBelow_of_tabIs (hJ.on hw0).here
  have cF : W1.cell? ⟨w.heap.size + 1, 0, none⟩ = some (.slice ad l.length cl) := by simp [World.cell?, hF]
  obtain ⟨c0, c1, c2, c3, c4, c5, c6, c7, c8, c9, c10, c11, c12⟩ := hB0.is
  simp only at c0 c1 c2 c3 c4 c5 c6 c7 c8
  have hl1 : IntsAt W1 N ad l := hl.below (hw0.mono hN)
  have hbA : Below W1.heap.size W1 (W1.alloc (.cells #[.int .i64 4] 3)) := (Below.refl _ _).alloc (Nat.le_refl _) _
  have hsA := ex_alloc_size W1 (.cells #[.int .i64 4] 3)
  have hk := Tryz.isF 2 l [4] ad (some ⟨W1.heap.size, 0, none⟩) cl 1 (w.heap.size + 1) N (W1.heap.size + 1) _ (hl1.below (hbA.mono (by omega))) (ints1 W1 4 (by omega)) (by omega) (by omega) (by simp; omega) hll (by decide) ((hbA.block _ (by omega)).trans hF)
  go_wp2_with (first | (go_at_call 167; refine hk.mono ?_; rintro e w' ⟨rfl, hb⟩))
  go_ret2
  exact ⟨rfl, below_next hw0 (hbA.trans (hb.mono hbA.size))⟩

set_option maxRecDepth 20000 in
set_option maxHeartbeats 1000000 in
theorem Tryz.opKind_27 (k nn vk vn : Int) (vs src name : ByteArray) (dist : Bool) (ea : Value) (l : List Int) (ad : Option Addr) (cl N : Nat) (w : World) (hl : IntsAt w N ad l) (hN : N ≤ w.heap.size) (hm : 1 ≤ l.length) (hll : l.length ≤ 1000000000) (_hr : kindsOk l) (hJ : spaceTab w.heap.size w) :
    Calls Tryz.prog 128 #[Node.v ⟨k, 27, nn, vk, vn, vs, src, name, dist⟩ ea, .slice ad l.length cl] w fun e w' => e = .returned (.tuple #[.int .i64 (opKR 27 nn l).1, .bool (opKR 27 nn l).2]) ∧ Below w.heap.size w w' := by
  obtain ⟨p, o, rfl, hp, c, _, _⟩ := hl 0 (by omega)
  have e0 : l.getD 0 0 = l[0] := by rw [List.getD_eq_getElem?_getD, List.getElem?_eq_getElem (by omega)]; rfl
  have hspec : opKR 27 nn l = (nn, (l[0] == 0) || canB l[0] nn) := by unfold opKR; rw [e0]; simp
  rw [hspec]
  clear hspec e0 hl _hr
  have hl0 : 0 < l.length := by omega
  generalize l[0] = a at *
  rw [Nat.add_zero] at c
  obtain ⟨hw0, hB0, hF, hs0⟩ := two_laid w ⟨k, 27, nn, vk, vn, vs, src, name, dist⟩ ea (.cells #[.slice (some ⟨p, o, none⟩) l.length cl] 28)
  unfold Node.v
  by_cases h0 : a = 0
  · subst h0
    go_enter Tryz.func128, Tryz.ntmps128
    go_upto_region 1 with fail
    generalize World.alloc (World.alloc w _) _ = W1 at hB0 hw0 hs0 hF ⊢
    have hJ1 : spaceTab W1.heap.size W1 := Lib.tabBelow_of_tabIs (hJ.on hw0).here
    have cF : W1.cell? ⟨w.heap.size + 1, 0, none⟩ = some (.slice (some ⟨p, o, none⟩) l.length cl) := by simp [World.cell?, hF]
    obtain ⟨c0, c1, c2, c3, c4, c5, c6, c7, c8, c9, c10, c11, c12⟩ := hB0.is
    simp only at c0 c1 c2 c3 c4 c5 c6 c7 c8
    have c : W1.cell? ⟨p, o, none⟩ = some (.int .i64 0) := (hw0.cell (p := ⟨p, o, none⟩) (Nat.lt_of_lt_of_le hp hN)).trans c
    go_wp2_with fail
    go_quiet (fail)
    go_wp2_with fail
    go_ret2
    exact ⟨by simp, by first | exact hw0 | exact belowDrewN hw0⟩
  · have h0b : (a == 0) = false := by simpa using h0
    go_enter Tryz.func128, Tryz.ntmps128
    go_upto_region 1 with fail
    generalize World.alloc (World.alloc w _) _ = W1 at hB0 hw0 hs0 hF ⊢
    have hJ1 : spaceTab W1.heap.size W1 := Lib.tabBelow_of_tabIs (hJ.on hw0).here
    have cF : W1.cell? ⟨w.heap.size + 1, 0, none⟩ = some (.slice (some ⟨p, o, none⟩) l.length cl) := by simp [World.cell?, hF]
    obtain ⟨c0, c1, c2, c3, c4, c5, c6, c7, c8, c9, c10, c11, c12⟩ := hB0.is
    simp only at c0 c1 c2 c3 c4 c5 c6 c7 c8
    have c : W1.cell? ⟨p, o, none⟩ = some (.int .i64 a) := (hw0.cell (p := ⟨p, o, none⟩) (Nat.lt_of_lt_of_le hp hN)).trans c
    go_wp2_with fail
    go_quiet ((go_at_call 114; refine Calls.quiet_of_same (Tryz.canCast _ _ _)))
    go_wp2_with fail
    go_ret2
    exact ⟨by rw [h0b]; rfl, by first | exact hw0 | exact belowDrewN hw0⟩

theorem Tryz.opKind (x : Node) (ea : Value) (l : List Int) (ad : Option Addr) (cl N : Nat) (w : World) (hl : IntsAt w N ad l) (hN : N ≤ w.heap.size) (hop : inB x.op 1 27 = true) (hm : rightArgsB 4 x.op l.length = true) (hll : l.length ≤ 1000000000) (hr : kindsOk l) (hJ : spaceTab w.heap.size w) :
    Calls Tryz.prog 128 #[x.v ea, .slice ad l.length cl] w fun e w' => e = .returned (.tuple #[.int .i64 (opKR x.op x.n l).1, .bool (opKR x.op x.n l).2]) ∧ Below w.heap.size w w' := by
  obtain ⟨k, op, nn, vk, vn, vs, src, name, dist⟩ := x
  have h27 : op = 1 ∨ op = 2 ∨ op = 3 ∨ op = 4 ∨ op = 5 ∨ op = 6 ∨ op = 7 ∨ op = 8 ∨ op = 9 ∨ op = 10 ∨ op = 11 ∨ op = 12 ∨ op = 13 ∨ op = 14 ∨ op = 15 ∨ op = 16 ∨ op = 17 ∨ op = 18 ∨ op = 19 ∨ op = 20 ∨ op = 21 ∨ op = 22 ∨ op = 23 ∨ op = 24 ∨ op = 25 ∨ op = 26 ∨ op = 27 := by unfold inB at hop; simp at hop; omega
  simp only at hm hop ⊢
  rcases h27 with rfl | rfl | rfl | rfl | rfl | rfl | rfl | rfl | rfl | rfl | rfl | rfl | rfl | rfl | rfl | rfl | rfl | rfl | rfl | rfl | rfl | rfl | rfl | rfl | rfl | rfl | rfl
  · exact Tryz.opKind_1 k nn vk vn vs src name dist ea l ad cl N w hl hN (by simp [rightArgsB, arityN] at hm; omega) hll hr hJ
  · exact Tryz.opKind_2 k nn vk vn vs src name dist ea l ad cl N w hl hN (by simp [rightArgsB, arityN] at hm; omega) hll hr hJ
  · exact Tryz.opKind_3 k nn vk vn vs src name dist ea l ad cl N w hl hN (by simp [rightArgsB, arityN] at hm; omega) hll hr hJ
  · exact Tryz.opKind_4 4 k nn vk vn vs src name dist ea l ad cl N w (by omega) hl hN (by simp [rightArgsB, arityN] at hm; omega) hll hr hJ
  · exact Tryz.opKind_4 5 k nn vk vn vs src name dist ea l ad cl N w (by omega) hl hN (by simp [rightArgsB, arityN] at hm; omega) hll hr hJ
  · exact Tryz.opKind_4 6 k nn vk vn vs src name dist ea l ad cl N w (by omega) hl hN (by simp [rightArgsB, arityN] at hm; omega) hll hr hJ
  · exact Tryz.opKind_4 7 k nn vk vn vs src name dist ea l ad cl N w (by omega) hl hN (by simp [rightArgsB, arityN] at hm; omega) hll hr hJ
  · exact Tryz.opKind_4 8 k nn vk vn vs src name dist ea l ad cl N w (by omega) hl hN (by simp [rightArgsB, arityN] at hm; omega) hll hr hJ
  · exact Tryz.opKind_4 9 k nn vk vn vs src name dist ea l ad cl N w (by omega) hl hN (by simp [rightArgsB, arityN] at hm; omega) hll hr hJ
  · exact Tryz.opKind_4 10 k nn vk vn vs src name dist ea l ad cl N w (by omega) hl hN (by simp [rightArgsB, arityN] at hm; omega) hll hr hJ
  · exact Tryz.opKind_11 k nn vk vn vs src name dist ea l ad cl N w hl hN (by simp [rightArgsB, arityN] at hm; omega) hll hr hJ
  · exact Tryz.opKind_12 12 k nn vk vn vs src name dist ea l ad cl N w (by omega) hl hN (by simp [rightArgsB, arityN] at hm; omega) hll hr hJ
  · exact Tryz.opKind_12 13 k nn vk vn vs src name dist ea l ad cl N w (by omega) hl hN (by simp [rightArgsB, arityN] at hm; omega) hll hr hJ
  · exact Tryz.opKind_12 14 k nn vk vn vs src name dist ea l ad cl N w (by omega) hl hN (by simp [rightArgsB, arityN] at hm; omega) hll hr hJ
  · exact Tryz.opKind_12 15 k nn vk vn vs src name dist ea l ad cl N w (by omega) hl hN (by simp [rightArgsB, arityN] at hm; omega) hll hr hJ
  · exact Tryz.opKind_12 16 k nn vk vn vs src name dist ea l ad cl N w (by omega) hl hN (by simp [rightArgsB, arityN] at hm; omega) hll hr hJ
  · exact Tryz.opKind_17 k nn vk vn vs src name dist ea l ad cl N w hl hN (by simp [rightArgsB, arityN] at hm; omega) hll hr hJ
  · exact Tryz.opKind_18 k nn vk vn vs src name dist ea l ad cl N w hl hN (by simp [rightArgsB, arityN] at hm; omega) hll hr hJ
  · exact Tryz.opKind_19 k nn vk vn vs src name dist ea l ad cl N w hl hN (by simp [rightArgsB, arityN] at hm; omega) hll hr hJ
  · exact Tryz.opKind_20 k nn vk vn vs src name dist ea l ad cl N w hl hN (by simp [rightArgsB, arityN] at hm; omega) hll hr hJ
  · exact Tryz.opKind_21 k nn vk vn vs src name dist ea l ad cl N w hl hN (by simp [rightArgsB, arityN] at hm; omega) hll hr hJ
  · exact Tryz.opKind_22 k nn vk vn vs src name dist ea l ad cl N w hl hN (by simp [rightArgsB, arityN] at hm; omega) hll hr hJ
  · exact Tryz.opKind_23 k nn vk vn vs src name dist ea l ad cl N w hl hN (by simp [rightArgsB, arityN] at hm; omega) hll hr hJ
  · exact Tryz.opKind_24 k nn vk vn vs src name dist ea l ad cl N w hl hN (by simp [rightArgsB, arityN] at hm; omega) hll hr hJ
  · exact Tryz.opKind_25 k nn vk vn vs src name dist ea l ad cl N w hl hN (by simp [rightArgsB, arityN] at hm; omega) hll hr hJ
  · exact Tryz.opKind_26 k nn vk vn vs src name dist ea l ad cl N w hl hN (by simp [rightArgsB, arityN] at hm; omega) hll hr hJ
  · exact Tryz.opKind_27 k nn vk vn vs src name dist ea l ad cl N w hl hN (by simp [rightArgsB, arityN] at hm; omega) hll hr hJ
end Go.Proofs
