/- Of package value: the kind of an operation. The condition: the library's table of white space. -/
import Derived.Test.YtkpligcifakmjaaGreatDoorSum
import Derived.Test.YtkpligcifakmjaaGreatDoorIntM
import Derived.Deep.QuietTactic
import Derived.BigQuiet
namespace Go.Proofs
open Go.RowKit Go.Ke

def operN (op n : Int) (l : List Int) : Int × Bool :=
  if op == 1 then (1, fitsB l [1])
  else if (op == 2) || (op == 3) then (1, fitsB l [1, 1])
  else if op == 11 then (1, true)
  else if (op == 12) || (op == 13) then sumN op (l.getD 0 0) (l.getD 1 0)
  else if (op == 14) || ((op == 15) || (op == 16)) then (2, fitsB l [2, 2])
  else if op == 17 then (2, fitsB l [2])
  else if op == 18 then (3, fitsB l [3, 3])
  else if op == 19 then (1, fitsB l [3, 3])
  else if (op == 20) || (op == 21) then (3, fitsB l [3])
  else if op == 22 then (2, fitsB l [3])
  else if op == 23 then (3, fitsB l [3, 2, 2])
  else if op == 24 then commonF 0 l
  else if op == 25 then (4, fitsB l [4])
  else if op == 26 then (2, fitsB l [4])
  else if op == 27 then (n, (l.getD 0 0 == 0) || ((l.getD 0 0 == n) || canB (l.getD 0 0) n))
  else (1, (commonF 0 l).2)

theorem part_laid (w : World) (x : Node) (v : Value) : Below w.heap.size w (w.alloc (.cells (x.cells v) 57)) ∧ Box (w.alloc (.cells (x.cells v) 57)) w.heap.size x v ∧ w.heap.size < (w.alloc (.cells (x.cells v) 57)).heap.size :=
  ⟨(Below.refl _ _).alloc (Nat.le_refl _) _, Box.new _ _ _, by rw [ex_alloc_size]; omega⟩

set_option maxRecDepth 20000 in
set_option maxHeartbeats 1000000 in
theorem Tryz.operated_1 (k nn vk vn : Int) (vs src name : ByteArray) (dist : Bool) (ea : Value) (l : List Int) (ad : Option Addr) (cl N : Nat) (w : World) (hl : IntsAt w N ad l) (hN : N ≤ w.heap.size) (hm : 1 ≤ l.length) (hll : l.length ≤ 1000000000) :
    Calls Tryz.prog 122 #[Node.v ⟨k, 1, nn, vk, vn, vs, src, name, dist⟩ ea, .slice ad l.length cl] w fun e w' => e = .returned (.tuple #[.int .i64 (operN 1 nn l).1, .bool (operN 1 nn l).2]) ∧ Below w.heap.size w w' := by
  have hspec : operN 1 nn l = (1, fitsB l [1]) := by simp [operN]
  rw [hspec]
  clear hspec
  obtain ⟨hw0, hB0, hs0⟩ := part_laid w ⟨k, 1, nn, vk, vn, vs, src, name, dist⟩ ea
  unfold Node.v
  go_enter Tryz.func122, Tryz.ntmps122
  go_upto_region 1 with fail
  generalize World.alloc w _ = W1 at hB0 hw0 hs0 ⊢
  obtain ⟨c0, c1, c2, c3, c4, c5, c6, c7, c8, c9, c10, c11, c12⟩ := hB0.is
  simp only at c0 c1 c2 c3 c4 c5 c6 c7 c8
  have hl1 : IntsAt W1 N ad l := hl.below (hw0.mono hN)
  have hk := Tryz.fits l [1] ad _ cl 1 _ N _ (hl1.below (((Below.refl W1.heap.size W1).alloc (Nat.le_refl _) (.cells #[.int .i64 1] 3)).mono (by omega))) (ints1 W1 1 (by omega)) (by simp; omega) hll
  go_wp2_with (first | (go_at_call 160; refine hk.mono ?_; rintro e w' ⟨rfl, rfl⟩))
  go_ret2
  exact ⟨rfl, hw0.alloc (by omega) _⟩

set_option maxRecDepth 20000 in
set_option maxHeartbeats 1000000 in
theorem Tryz.operated_2 (k nn vk vn : Int) (vs src name : ByteArray) (dist : Bool) (ea : Value) (l : List Int) (ad : Option Addr) (cl N : Nat) (w : World) (hl : IntsAt w N ad l) (hN : N ≤ w.heap.size) (hm : 2 ≤ l.length) (hll : l.length ≤ 1000000000) :
    Calls Tryz.prog 122 #[Node.v ⟨k, 2, nn, vk, vn, vs, src, name, dist⟩ ea, .slice ad l.length cl] w fun e w' => e = .returned (.tuple #[.int .i64 (operN 2 nn l).1, .bool (operN 2 nn l).2]) ∧ Below w.heap.size w w' := by
  have hspec : operN 2 nn l = (1, fitsB l [1, 1]) := by simp [operN]
  rw [hspec]
  clear hspec
  obtain ⟨hw0, hB0, hs0⟩ := part_laid w ⟨k, 2, nn, vk, vn, vs, src, name, dist⟩ ea
  unfold Node.v
  go_enter Tryz.func122, Tryz.ntmps122
  go_upto_region 1 with fail
  generalize World.alloc w _ = W1 at hB0 hw0 hs0 ⊢
  obtain ⟨c0, c1, c2, c3, c4, c5, c6, c7, c8, c9, c10, c11, c12⟩ := hB0.is
  simp only at c0 c1 c2 c3 c4 c5 c6 c7 c8
  have hl1 : IntsAt W1 N ad l := hl.below (hw0.mono hN)
  have hk := Tryz.fits l [1, 1] ad _ cl 2 _ N _ (hl1.below (((Below.refl W1.heap.size W1).alloc (Nat.le_refl _) (.cells #[.int .i64 1, .int .i64 1] 3)).mono (by omega))) (ints2 W1 1 1 (by omega) (by omega)) (by simp; omega) hll
  go_wp2_with (first | (go_at_call 160; refine hk.mono ?_; rintro e w' ⟨rfl, rfl⟩))
  go_ret2
  exact ⟨rfl, hw0.alloc (by omega) _⟩

set_option maxRecDepth 20000 in
set_option maxHeartbeats 1000000 in
theorem Tryz.operated_3 (k nn vk vn : Int) (vs src name : ByteArray) (dist : Bool) (ea : Value) (l : List Int) (ad : Option Addr) (cl N : Nat) (w : World) (hl : IntsAt w N ad l) (hN : N ≤ w.heap.size) (hm : 2 ≤ l.length) (hll : l.length ≤ 1000000000) :
    Calls Tryz.prog 122 #[Node.v ⟨k, 3, nn, vk, vn, vs, src, name, dist⟩ ea, .slice ad l.length cl] w fun e w' => e = .returned (.tuple #[.int .i64 (operN 3 nn l).1, .bool (operN 3 nn l).2]) ∧ Below w.heap.size w w' := by
  have hspec : operN 3 nn l = (1, fitsB l [1, 1]) := by simp [operN]
  rw [hspec]
  clear hspec
  obtain ⟨hw0, hB0, hs0⟩ := part_laid w ⟨k, 3, nn, vk, vn, vs, src, name, dist⟩ ea
  unfold Node.v
  go_enter Tryz.func122, Tryz.ntmps122
  go_upto_region 1 with fail
  generalize World.alloc w _ = W1 at hB0 hw0 hs0 ⊢
  obtain ⟨c0, c1, c2, c3, c4, c5, c6, c7, c8, c9, c10, c11, c12⟩ := hB0.is
  simp only at c0 c1 c2 c3 c4 c5 c6 c7 c8
  have hl1 : IntsAt W1 N ad l := hl.below (hw0.mono hN)
  have hk := Tryz.fits l [1, 1] ad _ cl 2 _ N _ (hl1.below (((Below.refl W1.heap.size W1).alloc (Nat.le_refl _) (.cells #[.int .i64 1, .int .i64 1] 3)).mono (by omega))) (ints2 W1 1 1 (by omega) (by omega)) (by simp; omega) hll
  go_wp2_with (first | (go_at_call 160; refine hk.mono ?_; rintro e w' ⟨rfl, rfl⟩))
  go_ret2
  exact ⟨rfl, hw0.alloc (by omega) _⟩

set_option maxRecDepth 20000 in
set_option maxHeartbeats 1000000 in
theorem Tryz.operated_4 (op k nn vk vn : Int) (vs src name : ByteArray) (dist : Bool) (ea : Value) (l : List Int) (ad : Option Addr) (cl N : Nat) (w : World) (hop : 4 ≤ op ∧ op ≤ 10) (hl : IntsAt w N ad l) (hN : N ≤ w.heap.size) (_hm : 0 ≤ l.length) (hll : l.length ≤ 1000000000) :
    Calls Tryz.prog 122 #[Node.v ⟨k, op, nn, vk, vn, vs, src, name, dist⟩ ea, .slice ad l.length cl] w fun e w' => e = .returned (.tuple #[.int .i64 (operN op nn l).1, .bool (operN op nn l).2]) ∧ Below w.heap.size w w' := by
  have hspec : operN op nn l = (1, (commonF 0 l).2) := by rcases (by omega : op = 4 ∨ op = 5 ∨ op = 6 ∨ op = 7 ∨ op = 8 ∨ op = 9 ∨ op = 10) with rfl | rfl | rfl | rfl | rfl | rfl | rfl <;> simp [operN]
  rw [hspec]
  clear hspec
  rcases (by omega : op = 4 ∨ op = 5 ∨ op = 6 ∨ op = 7 ∨ op = 8 ∨ op = 9 ∨ op = 10) with rfl | rfl | rfl | rfl | rfl | rfl | rfl
  all_goals
    obtain ⟨hw0, hB0, hs0⟩ := part_laid w ⟨k, _, nn, vk, vn, vs, src, name, dist⟩ ea
    unfold Node.v
    go_enter Tryz.func122, Tryz.ntmps122
    go_upto_region 1 with fail
    generalize World.alloc w _ = W1 at hB0 hw0 hs0 ⊢
    obtain ⟨c0, c1, c2, c3, c4, c5, c6, c7, c8, c9, c10, c11, c12⟩ := hB0.is
    simp only at c0 c1 c2 c3 c4 c5 c6 c7 c8
    have hk := Tryz.common l ad cl W1 N (hl.below (hw0.mono hN)) hll
    go_wp2_with (first | (go_at_call 124; refine hk.mono ?_; rintro e w' ⟨rfl, rfl⟩))
    go_ret2
    exact ⟨rfl, hw0⟩

set_option maxRecDepth 20000 in
set_option maxHeartbeats 1000000 in
theorem Tryz.operated_11 (k nn vk vn : Int) (vs src name : ByteArray) (dist : Bool) (ea : Value) (l : List Int) (ad : Option Addr) (cl N : Nat) (w : World) (_hl : IntsAt w N ad l) (_hN : N ≤ w.heap.size) (_hm : 0 ≤ l.length) (_hll : l.length ≤ 1000000000) :
    Calls Tryz.prog 122 #[Node.v ⟨k, 11, nn, vk, vn, vs, src, name, dist⟩ ea, .slice ad l.length cl] w fun e w' => e = .returned (.tuple #[.int .i64 (operN 11 nn l).1, .bool (operN 11 nn l).2]) ∧ Below w.heap.size w w' := by
  have hspec : operN 11 nn l = (1, true) := by simp [operN]
  rw [hspec]
  clear hspec
  obtain ⟨hw0, hB0, hs0⟩ := part_laid w ⟨k, 11, nn, vk, vn, vs, src, name, dist⟩ ea
  unfold Node.v
  go_enter Tryz.func122, Tryz.ntmps122
  go_upto_region 1 with fail
  generalize World.alloc w _ = W1 at hB0 hw0 hs0 ⊢
  obtain ⟨c0, c1, c2, c3, c4, c5, c6, c7, c8, c9, c10, c11, c12⟩ := hB0.is
  simp only at c0 c1 c2 c3 c4 c5 c6 c7 c8
  go_wp2_with fail
  go_ret2
  exact ⟨rfl, hw0⟩

set_option maxRecDepth 20000 in
set_option maxHeartbeats 1000000 in
theorem Tryz.operated_12 (k nn vk vn : Int) (vs src name : ByteArray) (dist : Bool) (ea : Value) (l : List Int) (ad : Option Addr) (cl N : Nat) (w : World) (hl : IntsAt w N ad l) (hN : N ≤ w.heap.size) (hm : 2 ≤ l.length) (_hll : l.length ≤ 1000000000) :
    Calls Tryz.prog 122 #[Node.v ⟨k, 12, nn, vk, vn, vs, src, name, dist⟩ ea, .slice ad l.length cl] w fun e w' => e = .returned (.tuple #[.int .i64 (operN 12 nn l).1, .bool (operN 12 nn l).2]) ∧ Below w.heap.size w w' := by
  have hspec : operN 12 nn l = sumN 12 (l.getD 0 0) (l.getD 1 0) := by simp [operN]
  rw [hspec]
  clear hspec
  obtain ⟨hw0, hB0, hs0⟩ := part_laid w ⟨k, 12, nn, vk, vn, vs, src, name, dist⟩ ea
  unfold Node.v
  go_enter Tryz.func122, Tryz.ntmps122
  go_upto_region 1 with fail
  generalize World.alloc w _ = W1 at hB0 hw0 hs0 ⊢
  obtain ⟨c0, c1, c2, c3, c4, c5, c6, c7, c8, c9, c10, c11, c12⟩ := hB0.is
  simp only at c0 c1 c2 c3 c4 c5 c6 c7 c8
  have hk := Tryz.sum 12 l ad cl W1 N (hl.below (hw0.mono hN)) (by omega)
  go_wp2_with (first | (go_at_call 161; refine hk.mono ?_; rintro e w' ⟨rfl, hb⟩))
  go_ret2
  exact ⟨rfl, below_next hw0 hb⟩

set_option maxRecDepth 20000 in
set_option maxHeartbeats 1000000 in
theorem Tryz.operated_13 (k nn vk vn : Int) (vs src name : ByteArray) (dist : Bool) (ea : Value) (l : List Int) (ad : Option Addr) (cl N : Nat) (w : World) (hl : IntsAt w N ad l) (hN : N ≤ w.heap.size) (hm : 2 ≤ l.length) (_hll : l.length ≤ 1000000000) :
    Calls Tryz.prog 122 #[Node.v ⟨k, 13, nn, vk, vn, vs, src, name, dist⟩ ea, .slice ad l.length cl] w fun e w' => e = .returned (.tuple #[.int .i64 (operN 13 nn l).1, .bool (operN 13 nn l).2]) ∧ Below w.heap.size w w' := by
  have hspec : operN 13 nn l = sumN 13 (l.getD 0 0) (l.getD 1 0) := by simp [operN]
  rw [hspec]
  clear hspec
  obtain ⟨hw0, hB0, hs0⟩ := part_laid w ⟨k, 13, nn, vk, vn, vs, src, name, dist⟩ ea
  unfold Node.v
  go_enter Tryz.func122, Tryz.ntmps122
  go_upto_region 1 with fail
  generalize World.alloc w _ = W1 at hB0 hw0 hs0 ⊢
  obtain ⟨c0, c1, c2, c3, c4, c5, c6, c7, c8, c9, c10, c11, c12⟩ := hB0.is
  simp only at c0 c1 c2 c3 c4 c5 c6 c7 c8
  have hk := Tryz.sum 13 l ad cl W1 N (hl.below (hw0.mono hN)) (by omega)
  go_wp2_with (first | (go_at_call 161; refine hk.mono ?_; rintro e w' ⟨rfl, hb⟩))
  go_ret2
  exact ⟨rfl, below_next hw0 hb⟩

set_option maxRecDepth 20000 in
set_option maxHeartbeats 1000000 in
theorem Tryz.operated_14 (k nn vk vn : Int) (vs src name : ByteArray) (dist : Bool) (ea : Value) (l : List Int) (ad : Option Addr) (cl N : Nat) (w : World) (hl : IntsAt w N ad l) (hN : N ≤ w.heap.size) (hm : 2 ≤ l.length) (hll : l.length ≤ 1000000000) :
    Calls Tryz.prog 122 #[Node.v ⟨k, 14, nn, vk, vn, vs, src, name, dist⟩ ea, .slice ad l.length cl] w fun e w' => e = .returned (.tuple #[.int .i64 (operN 14 nn l).1, .bool (operN 14 nn l).2]) ∧ Below w.heap.size w w' := by
  have hspec : operN 14 nn l = (2, fitsB l [2, 2]) := by simp [operN]
  rw [hspec]
  clear hspec
  obtain ⟨hw0, hB0, hs0⟩ := part_laid w ⟨k, 14, nn, vk, vn, vs, src, name, dist⟩ ea
  unfold Node.v
  go_enter Tryz.func122, Tryz.ntmps122
  go_upto_region 1 with fail
  generalize World.alloc w _ = W1 at hB0 hw0 hs0 ⊢
  obtain ⟨c0, c1, c2, c3, c4, c5, c6, c7, c8, c9, c10, c11, c12⟩ := hB0.is
  simp only at c0 c1 c2 c3 c4 c5 c6 c7 c8
  have hl1 : IntsAt W1 N ad l := hl.below (hw0.mono hN)
  have hk := Tryz.fits l [2, 2] ad _ cl 2 _ N _ (hl1.below (((Below.refl W1.heap.size W1).alloc (Nat.le_refl _) (.cells #[.int .i64 2, .int .i64 2] 3)).mono (by omega))) (ints2 W1 2 2 (by omega) (by omega)) (by simp; omega) hll
  go_wp2_with (first | (go_at_call 160; refine hk.mono ?_; rintro e w' ⟨rfl, rfl⟩))
  go_ret2
  exact ⟨rfl, hw0.alloc (by omega) _⟩

set_option maxRecDepth 20000 in
set_option maxHeartbeats 1000000 in
theorem Tryz.operated_15 (k nn vk vn : Int) (vs src name : ByteArray) (dist : Bool) (ea : Value) (l : List Int) (ad : Option Addr) (cl N : Nat) (w : World) (hl : IntsAt w N ad l) (hN : N ≤ w.heap.size) (hm : 2 ≤ l.length) (hll : l.length ≤ 1000000000) :
    Calls Tryz.prog 122 #[Node.v ⟨k, 15, nn, vk, vn, vs, src, name, dist⟩ ea, .slice ad l.length cl] w fun e w' => e = .returned (.tuple #[.int .i64 (operN 15 nn l).1, .bool (operN 15 nn l).2]) ∧ Below w.heap.size w w' := by
  have hspec : operN 15 nn l = (2, fitsB l [2, 2]) := by simp [operN]
  rw [hspec]
  clear hspec
  obtain ⟨hw0, hB0, hs0⟩ := part_laid w ⟨k, 15, nn, vk, vn, vs, src, name, dist⟩ ea
  unfold Node.v
  go_enter Tryz.func122, Tryz.ntmps122
  go_upto_region 1 with fail
  generalize World.alloc w _ = W1 at hB0 hw0 hs0 ⊢
  obtain ⟨c0, c1, c2, c3, c4, c5, c6, c7, c8, c9, c10, c11, c12⟩ := hB0.is
  simp only at c0 c1 c2 c3 c4 c5 c6 c7 c8
  have hl1 : IntsAt W1 N ad l := hl.below (hw0.mono hN)
  have hk := Tryz.fits l [2, 2] ad _ cl 2 _ N _ (hl1.below (((Below.refl W1.heap.size W1).alloc (Nat.le_refl _) (.cells #[.int .i64 2, .int .i64 2] 3)).mono (by omega))) (ints2 W1 2 2 (by omega) (by omega)) (by simp; omega) hll
  go_wp2_with (first | (go_at_call 160; refine hk.mono ?_; rintro e w' ⟨rfl, rfl⟩))
  go_ret2
  exact ⟨rfl, hw0.alloc (by omega) _⟩

set_option maxRecDepth 20000 in
set_option maxHeartbeats 1000000 in
theorem Tryz.operated_16 (k nn vk vn : Int) (vs src name : ByteArray) (dist : Bool) (ea : Value) (l : List Int) (ad : Option Addr) (cl N : Nat) (w : World) (hl : IntsAt w N ad l) (hN : N ≤ w.heap.size) (hm : 2 ≤ l.length) (hll : l.length ≤ 1000000000) :
    Calls Tryz.prog 122 #[Node.v ⟨k, 16, nn, vk, vn, vs, src, name, dist⟩ ea, .slice ad l.length cl] w fun e w' => e = .returned (.tuple #[.int .i64 (operN 16 nn l).1, .bool (operN 16 nn l).2]) ∧ Below w.heap.size w w' := by
  have hspec : operN 16 nn l = (2, fitsB l [2, 2]) := by simp [operN]
  rw [hspec]
  clear hspec
  obtain ⟨hw0, hB0, hs0⟩ := part_laid w ⟨k, 16, nn, vk, vn, vs, src, name, dist⟩ ea
  unfold Node.v
  go_enter Tryz.func122, Tryz.ntmps122
  go_upto_region 1 with fail
  generalize World.alloc w _ = W1 at hB0 hw0 hs0 ⊢
  obtain ⟨c0, c1, c2, c3, c4, c5, c6, c7, c8, c9, c10, c11, c12⟩ := hB0.is
  simp only at c0 c1 c2 c3 c4 c5 c6 c7 c8
  have hl1 : IntsAt W1 N ad l := hl.below (hw0.mono hN)
  have hk := Tryz.fits l [2, 2] ad _ cl 2 _ N _ (hl1.below (((Below.refl W1.heap.size W1).alloc (Nat.le_refl _) (.cells #[.int .i64 2, .int .i64 2] 3)).mono (by omega))) (ints2 W1 2 2 (by omega) (by omega)) (by simp; omega) hll
  go_wp2_with (first | (go_at_call 160; refine hk.mono ?_; rintro e w' ⟨rfl, rfl⟩))
  go_ret2
  exact ⟨rfl, hw0.alloc (by omega) _⟩

set_option maxRecDepth 20000 in
set_option maxHeartbeats 1000000 in
theorem Tryz.operated_17 (k nn vk vn : Int) (vs src name : ByteArray) (dist : Bool) (ea : Value) (l : List Int) (ad : Option Addr) (cl N : Nat) (w : World) (hl : IntsAt w N ad l) (hN : N ≤ w.heap.size) (hm : 1 ≤ l.length) (hll : l.length ≤ 1000000000) :
    Calls Tryz.prog 122 #[Node.v ⟨k, 17, nn, vk, vn, vs, src, name, dist⟩ ea, .slice ad l.length cl] w fun e w' => e = .returned (.tuple #[.int .i64 (operN 17 nn l).1, .bool (operN 17 nn l).2]) ∧ Below w.heap.size w w' := by
  have hspec : operN 17 nn l = (2, fitsB l [2]) := by simp [operN]
  rw [hspec]
  clear hspec
  obtain ⟨hw0, hB0, hs0⟩ := part_laid w ⟨k, 17, nn, vk, vn, vs, src, name, dist⟩ ea
  unfold Node.v
  go_enter Tryz.func122, Tryz.ntmps122
  go_upto_region 1 with fail
  generalize World.alloc w _ = W1 at hB0 hw0 hs0 ⊢
  obtain ⟨c0, c1, c2, c3, c4, c5, c6, c7, c8, c9, c10, c11, c12⟩ := hB0.is
  simp only at c0 c1 c2 c3 c4 c5 c6 c7 c8
  have hl1 : IntsAt W1 N ad l := hl.below (hw0.mono hN)
  have hk := Tryz.fits l [2] ad _ cl 1 _ N _ (hl1.below (((Below.refl W1.heap.size W1).alloc (Nat.le_refl _) (.cells #[.int .i64 2] 3)).mono (by omega))) (ints1 W1 2 (by omega)) (by simp; omega) hll
  go_wp2_with (first | (go_at_call 160; refine hk.mono ?_; rintro e w' ⟨rfl, rfl⟩))
  go_ret2
  exact ⟨rfl, hw0.alloc (by omega) _⟩

set_option maxRecDepth 20000 in
set_option maxHeartbeats 1000000 in
theorem Tryz.operated_18 (k nn vk vn : Int) (vs src name : ByteArray) (dist : Bool) (ea : Value) (l : List Int) (ad : Option Addr) (cl N : Nat) (w : World) (hl : IntsAt w N ad l) (hN : N ≤ w.heap.size) (hm : 2 ≤ l.length) (hll : l.length ≤ 1000000000) :
    Calls Tryz.prog 122 #[Node.v ⟨k, 18, nn, vk, vn, vs, src, name, dist⟩ ea, .slice ad l.length cl] w fun e w' => e = .returned (.tuple #[.int .i64 (operN 18 nn l).1, .bool (operN 18 nn l).2]) ∧ Below w.heap.size w w' := by
  have hspec : operN 18 nn l = (3, fitsB l [3, 3]) := by simp [operN]
  rw [hspec]
  clear hspec
  obtain ⟨hw0, hB0, hs0⟩ := part_laid w ⟨k, 18, nn, vk, vn, vs, src, name, dist⟩ ea
  unfold Node.v
  go_enter Tryz.func122, Tryz.ntmps122
  go_upto_region 1 with fail
  generalize World.alloc w _ = W1 at hB0 hw0 hs0 ⊢
  obtain ⟨c0, c1, c2, c3, c4, c5, c6, c7, c8, c9, c10, c11, c12⟩ := hB0.is
  simp only at c0 c1 c2 c3 c4 c5 c6 c7 c8
  have hl1 : IntsAt W1 N ad l := hl.below (hw0.mono hN)
  have hk := Tryz.fits l [3, 3] ad _ cl 2 _ N _ (hl1.below (((Below.refl W1.heap.size W1).alloc (Nat.le_refl _) (.cells #[.int .i64 3, .int .i64 3] 3)).mono (by omega))) (ints2 W1 3 3 (by omega) (by omega)) (by simp; omega) hll
  go_wp2_with (first | (go_at_call 160; refine hk.mono ?_; rintro e w' ⟨rfl, rfl⟩))
  go_ret2
  exact ⟨rfl, hw0.alloc (by omega) _⟩

set_option maxRecDepth 20000 in
set_option maxHeartbeats 1000000 in
theorem Tryz.operated_19 (k nn vk vn : Int) (vs src name : ByteArray) (dist : Bool) (ea : Value) (l : List Int) (ad : Option Addr) (cl N : Nat) (w : World) (hl : IntsAt w N ad l) (hN : N ≤ w.heap.size) (hm : 2 ≤ l.length) (hll : l.length ≤ 1000000000) :
    Calls Tryz.prog 122 #[Node.v ⟨k, 19, nn, vk, vn, vs, src, name, dist⟩ ea, .slice ad l.length cl] w fun e w' => e = .returned (.tuple #[.int .i64 (operN 19 nn l).1, .bool (operN 19 nn l).2]) ∧ Below w.heap.size w w' := by
  have hspec : operN 19 nn l = (1, fitsB l [3, 3]) := by simp [operN]
  rw [hspec]
  clear hspec
  obtain ⟨hw0, hB0, hs0⟩ := part_laid w ⟨k, 19, nn, vk, vn, vs, src, name, dist⟩ ea
  unfold Node.v
  go_enter Tryz.func122, Tryz.ntmps122
  go_upto_region 1 with fail
  generalize World.alloc w _ = W1 at hB0 hw0 hs0 ⊢
  obtain ⟨c0, c1, c2, c3, c4, c5, c6, c7, c8, c9, c10, c11, c12⟩ := hB0.is
  simp only at c0 c1 c2 c3 c4 c5 c6 c7 c8
  have hl1 : IntsAt W1 N ad l := hl.below (hw0.mono hN)
  have hk := Tryz.fits l [3, 3] ad _ cl 2 _ N _ (hl1.below (((Below.refl W1.heap.size W1).alloc (Nat.le_refl _) (.cells #[.int .i64 3, .int .i64 3] 3)).mono (by omega))) (ints2 W1 3 3 (by omega) (by omega)) (by simp; omega) hll
  go_wp2_with (first | (go_at_call 160; refine hk.mono ?_; rintro e w' ⟨rfl, rfl⟩))
  go_ret2
  exact ⟨rfl, hw0.alloc (by omega) _⟩

set_option maxRecDepth 20000 in
set_option maxHeartbeats 1000000 in
theorem Tryz.operated_20 (k nn vk vn : Int) (vs src name : ByteArray) (dist : Bool) (ea : Value) (l : List Int) (ad : Option Addr) (cl N : Nat) (w : World) (hl : IntsAt w N ad l) (hN : N ≤ w.heap.size) (hm : 1 ≤ l.length) (hll : l.length ≤ 1000000000) :
    Calls Tryz.prog 122 #[Node.v ⟨k, 20, nn, vk, vn, vs, src, name, dist⟩ ea, .slice ad l.length cl] w fun e w' => e = .returned (.tuple #[.int .i64 (operN 20 nn l).1, .bool (operN 20 nn l).2]) ∧ Below w.heap.size w w' := by
  have hspec : operN 20 nn l = (3, fitsB l [3]) := by simp [operN]
  rw [hspec]
  clear hspec
  obtain ⟨hw0, hB0, hs0⟩ := part_laid w ⟨k, 20, nn, vk, vn, vs, src, name, dist⟩ ea
  unfold Node.v
  go_enter Tryz.func122, Tryz.ntmps122
  go_upto_region 1 with fail
  generalize World.alloc w _ = W1 at hB0 hw0 hs0 ⊢
  obtain ⟨c0, c1, c2, c3, c4, c5, c6, c7, c8, c9, c10, c11, c12⟩ := hB0.is
  simp only at c0 c1 c2 c3 c4 c5 c6 c7 c8
  have hl1 : IntsAt W1 N ad l := hl.below (hw0.mono hN)
  have hk := Tryz.fits l [3] ad _ cl 1 _ N _ (hl1.below (((Below.refl W1.heap.size W1).alloc (Nat.le_refl _) (.cells #[.int .i64 3] 3)).mono (by omega))) (ints1 W1 3 (by omega)) (by simp; omega) hll
  go_wp2_with (first | (go_at_call 160; refine hk.mono ?_; rintro e w' ⟨rfl, rfl⟩))
  go_ret2
  exact ⟨rfl, hw0.alloc (by omega) _⟩

set_option maxRecDepth 20000 in
set_option maxHeartbeats 1000000 in
theorem Tryz.operated_21 (k nn vk vn : Int) (vs src name : ByteArray) (dist : Bool) (ea : Value) (l : List Int) (ad : Option Addr) (cl N : Nat) (w : World) (hl : IntsAt w N ad l) (hN : N ≤ w.heap.size) (hm : 1 ≤ l.length) (hll : l.length ≤ 1000000000) :
    Calls Tryz.prog 122 #[Node.v ⟨k, 21, nn, vk, vn, vs, src, name, dist⟩ ea, .slice ad l.length cl] w fun e w' => e = .returned (.tuple #[.int .i64 (operN 21 nn l).1, .bool (operN 21 nn l).2]) ∧ Below w.heap.size w w' := by
  have hspec : operN 21 nn l = (3, fitsB l [3]) := by simp [operN]
  rw [hspec]
  clear hspec
  obtain ⟨hw0, hB0, hs0⟩ := part_laid w ⟨k, 21, nn, vk, vn, vs, src, name, dist⟩ ea
  unfold Node.v
  go_enter Tryz.func122, Tryz.ntmps122
  go_upto_region 1 with fail
  generalize World.alloc w _ = W1 at hB0 hw0 hs0 ⊢
  obtain ⟨c0, c1, c2, c3, c4, c5, c6, c7, c8, c9, c10, c11, c12⟩ := hB0.is
  simp only at c0 c1 c2 c3 c4 c5 c6 c7 c8
  have hl1 : IntsAt W1 N ad l := hl.below (hw0.mono hN)
  have hk := Tryz.fits l [3] ad _ cl 1 _ N _ (hl1.below (((Below.refl W1.heap.size W1).alloc (Nat.le_refl _) (.cells #[.int .i64 3] 3)).mono (by omega))) (ints1 W1 3 (by omega)) (by simp; omega) hll
  go_wp2_with (first | (go_at_call 160; refine hk.mono ?_; rintro e w' ⟨rfl, rfl⟩))
  go_ret2
  exact ⟨rfl, hw0.alloc (by omega) _⟩

set_option maxRecDepth 20000 in
set_option maxHeartbeats 1000000 in
theorem Tryz.operated_22 (k nn vk vn : Int) (vs src name : ByteArray) (dist : Bool) (ea : Value) (l : List Int) (ad : Option Addr) (cl N : Nat) (w : World) (hl : IntsAt w N ad l) (hN : N ≤ w.heap.size) (hm : 1 ≤ l.length) (hll : l.length ≤ 1000000000) :
    Calls Tryz.prog 122 #[Node.v ⟨k, 22, nn, vk, vn, vs, src, name, dist⟩ ea, .slice ad l.length cl] w fun e w' => e = .returned (.tuple #[.int .i64 (operN 22 nn l).1, .bool (operN 22 nn l).2]) ∧ Below w.heap.size w w' := by
  have hspec : operN 22 nn l = (2, fitsB l [3]) := by simp [operN]
  rw [hspec]
  clear hspec
  obtain ⟨hw0, hB0, hs0⟩ := part_laid w ⟨k, 22, nn, vk, vn, vs, src, name, dist⟩ ea
  unfold Node.v
  go_enter Tryz.func122, Tryz.ntmps122
  go_upto_region 1 with fail
  generalize World.alloc w _ = W1 at hB0 hw0 hs0 ⊢
  obtain ⟨c0, c1, c2, c3, c4, c5, c6, c7, c8, c9, c10, c11, c12⟩ := hB0.is
  simp only at c0 c1 c2 c3 c4 c5 c6 c7 c8
  have hl1 : IntsAt W1 N ad l := hl.below (hw0.mono hN)
  have hk := Tryz.fits l [3] ad _ cl 1 _ N _ (hl1.below (((Below.refl W1.heap.size W1).alloc (Nat.le_refl _) (.cells #[.int .i64 3] 3)).mono (by omega))) (ints1 W1 3 (by omega)) (by simp; omega) hll
  go_wp2_with (first | (go_at_call 160; refine hk.mono ?_; rintro e w' ⟨rfl, rfl⟩))
  go_ret2
  exact ⟨rfl, hw0.alloc (by omega) _⟩

set_option maxRecDepth 20000 in
set_option maxHeartbeats 1000000 in
theorem Tryz.operated_23 (k nn vk vn : Int) (vs src name : ByteArray) (dist : Bool) (ea : Value) (l : List Int) (ad : Option Addr) (cl N : Nat) (w : World) (hl : IntsAt w N ad l) (hN : N ≤ w.heap.size) (hm : 3 ≤ l.length) (hll : l.length ≤ 1000000000) :
    Calls Tryz.prog 122 #[Node.v ⟨k, 23, nn, vk, vn, vs, src, name, dist⟩ ea, .slice ad l.length cl] w fun e w' => e = .returned (.tuple #[.int .i64 (operN 23 nn l).1, .bool (operN 23 nn l).2]) ∧ Below w.heap.size w w' := by
  have hspec : operN 23 nn l = (3, fitsB l [3, 2, 2]) := by simp [operN]
  rw [hspec]
  clear hspec
  obtain ⟨hw0, hB0, hs0⟩ := part_laid w ⟨k, 23, nn, vk, vn, vs, src, name, dist⟩ ea
  unfold Node.v
  go_enter Tryz.func122, Tryz.ntmps122
  go_upto_region 1 with fail
  generalize World.alloc w _ = W1 at hB0 hw0 hs0 ⊢
  obtain ⟨c0, c1, c2, c3, c4, c5, c6, c7, c8, c9, c10, c11, c12⟩ := hB0.is
  simp only at c0 c1 c2 c3 c4 c5 c6 c7 c8
  have hl1 : IntsAt W1 N ad l := hl.below (hw0.mono hN)
  have hk := Tryz.fits l [3, 2, 2] ad _ cl 3 _ N _ (hl1.below (((Below.refl W1.heap.size W1).alloc (Nat.le_refl _) (.cells #[.int .i64 3, .int .i64 2, .int .i64 2] 3)).mono (by omega))) (ints3 W1 3 2 2 (by omega) (by omega) (by omega)) (by simp; omega) hll
  go_wp2_with (first | (go_at_call 160; refine hk.mono ?_; rintro e w' ⟨rfl, rfl⟩))
  go_ret2
  exact ⟨rfl, hw0.alloc (by omega) _⟩

set_option maxRecDepth 20000 in
set_option maxHeartbeats 1000000 in
theorem Tryz.operated_24 (k nn vk vn : Int) (vs src name : ByteArray) (dist : Bool) (ea : Value) (l : List Int) (ad : Option Addr) (cl N : Nat) (w : World) (hl : IntsAt w N ad l) (hN : N ≤ w.heap.size) (_hm : 0 ≤ l.length) (hll : l.length ≤ 1000000000) :
    Calls Tryz.prog 122 #[Node.v ⟨k, 24, nn, vk, vn, vs, src, name, dist⟩ ea, .slice ad l.length cl] w fun e w' => e = .returned (.tuple #[.int .i64 (operN 24 nn l).1, .bool (operN 24 nn l).2]) ∧ Below w.heap.size w w' := by
  have hspec : operN 24 nn l = commonF 0 l := by simp [operN]
  rw [hspec]
  clear hspec
  obtain ⟨hw0, hB0, hs0⟩ := part_laid w ⟨k, 24, nn, vk, vn, vs, src, name, dist⟩ ea
  unfold Node.v
  go_enter Tryz.func122, Tryz.ntmps122
  go_upto_region 1 with fail
  generalize World.alloc w _ = W1 at hB0 hw0 hs0 ⊢
  obtain ⟨c0, c1, c2, c3, c4, c5, c6, c7, c8, c9, c10, c11, c12⟩ := hB0.is
  simp only at c0 c1 c2 c3 c4 c5 c6 c7 c8
  have hk := Tryz.common l ad cl W1 N (hl.below (hw0.mono hN)) hll
  go_wp2_with (first | (go_at_call 124; refine hk.mono ?_; rintro e w' ⟨rfl, rfl⟩))
  go_ret2
  exact ⟨rfl, hw0⟩

set_option maxRecDepth 20000 in
set_option maxHeartbeats 1000000 in
theorem Tryz.operated_25 (k nn vk vn : Int) (vs src name : ByteArray) (dist : Bool) (ea : Value) (l : List Int) (ad : Option Addr) (cl N : Nat) (w : World) (hl : IntsAt w N ad l) (hN : N ≤ w.heap.size) (hm : 1 ≤ l.length) (hll : l.length ≤ 1000000000) :
    Calls Tryz.prog 122 #[Node.v ⟨k, 25, nn, vk, vn, vs, src, name, dist⟩ ea, .slice ad l.length cl] w fun e w' => e = .returned (.tuple #[.int .i64 (operN 25 nn l).1, .bool (operN 25 nn l).2]) ∧ Below w.heap.size w w' := by
  have hspec : operN 25 nn l = (4, fitsB l [4]) := by simp [operN]
  rw [hspec]
  clear hspec
  obtain ⟨hw0, hB0, hs0⟩ := part_laid w ⟨k, 25, nn, vk, vn, vs, src, name, dist⟩ ea
  unfold Node.v
  go_enter Tryz.func122, Tryz.ntmps122
  go_upto_region 1 with fail
  generalize World.alloc w _ = W1 at hB0 hw0 hs0 ⊢
  obtain ⟨c0, c1, c2, c3, c4, c5, c6, c7, c8, c9, c10, c11, c12⟩ := hB0.is
  simp only at c0 c1 c2 c3 c4 c5 c6 c7 c8
  have hl1 : IntsAt W1 N ad l := hl.below (hw0.mono hN)
  have hk := Tryz.fits l [4] ad _ cl 1 _ N _ (hl1.below (((Below.refl W1.heap.size W1).alloc (Nat.le_refl _) (.cells #[.int .i64 4] 3)).mono (by omega))) (ints1 W1 4 (by omega)) (by simp; omega) hll
  go_wp2_with (first | (go_at_call 160; refine hk.mono ?_; rintro e w' ⟨rfl, rfl⟩))
  go_ret2
  exact ⟨rfl, hw0.alloc (by omega) _⟩

set_option maxRecDepth 20000 in
set_option maxHeartbeats 1000000 in
theorem Tryz.operated_26 (k nn vk vn : Int) (vs src name : ByteArray) (dist : Bool) (ea : Value) (l : List Int) (ad : Option Addr) (cl N : Nat) (w : World) (hl : IntsAt w N ad l) (hN : N ≤ w.heap.size) (hm : 1 ≤ l.length) (hll : l.length ≤ 1000000000) :
    Calls Tryz.prog 122 #[Node.v ⟨k, 26, nn, vk, vn, vs, src, name, dist⟩ ea, .slice ad l.length cl] w fun e w' => e = .returned (.tuple #[.int .i64 (operN 26 nn l).1, .bool (operN 26 nn l).2]) ∧ Below w.heap.size w w' := by
  have hspec : operN 26 nn l = (2, fitsB l [4]) := by simp [operN]
  rw [hspec]
  clear hspec
  obtain ⟨hw0, hB0, hs0⟩ := part_laid w ⟨k, 26, nn, vk, vn, vs, src, name, dist⟩ ea
  unfold Node.v
  go_enter Tryz.func122, Tryz.ntmps122
  go_upto_region 1 with fail
  generalize World.alloc w _ = W1 at hB0 hw0 hs0 ⊢
  obtain ⟨c0, c1, c2, c3, c4, c5, c6, c7, c8, c9, c10, c11, c12⟩ := hB0.is
  simp only at c0 c1 c2 c3 c4 c5 c6 c7 c8
  have hl1 : IntsAt W1 N ad l := hl.below (hw0.mono hN)
  have hk := Tryz.fits l [4] ad _ cl 1 _ N _ (hl1.below (((Below.refl W1.heap.size W1).alloc (Nat.le_refl _) (.cells #[.int .i64 4] 3)).mono (by omega))) (ints1 W1 4 (by omega)) (by simp; omega) hll
  go_wp2_with (first | (go_at_call 160; refine hk.mono ?_; rintro e w' ⟨rfl, rfl⟩))
  go_ret2
  exact ⟨rfl, hw0.alloc (by omega) _⟩

set_option maxRecDepth 20000 in
set_option maxHeartbeats 1000000 in
theorem Tryz.operated_27 (k nn vk vn : Int) (vs src name : ByteArray) (dist : Bool) (ea : Value) (l : List Int) (ad : Option Addr) (cl N : Nat) (w : World) (hl : IntsAt w N ad l) (hN : N ≤ w.heap.size) (hm : 1 ≤ l.length) (hll : l.length ≤ 1000000000) :
    Calls Tryz.prog 122 #[Node.v ⟨k, 27, nn, vk, vn, vs, src, name, dist⟩ ea, .slice ad l.length cl] w fun e w' => e = .returned (.tuple #[.int .i64 (operN 27 nn l).1, .bool (operN 27 nn l).2]) ∧ Below w.heap.size w w' := by
  obtain ⟨p, o, rfl, hp, c, _, _⟩ := hl 0 (by omega)
  have e0 : l.getD 0 0 = l[0] := by rw [List.getD_eq_getElem?_getD, List.getElem?_eq_getElem (by omega)]; rfl
  have hspec : operN 27 nn l = (nn, (l[0] == 0) || ((l[0] == nn) || canB l[0] nn)) := by unfold operN; rw [e0]; simp
  rw [hspec]
  clear hspec e0 hl
  have hl0 : 0 < l.length := by omega
  generalize l[0] = a at *
  rw [Nat.add_zero] at c
  obtain ⟨hw0, hB0, hs0⟩ := part_laid w ⟨k, 27, nn, vk, vn, vs, src, name, dist⟩ ea
  unfold Node.v
  by_cases h0 : a = 0
  · subst h0
    go_enter Tryz.func122, Tryz.ntmps122
    go_upto_region 1 with fail
    generalize World.alloc w _ = W1 at hB0 hw0 hs0 ⊢
    obtain ⟨c0, c1, c2, c3, c4, c5, c6, c7, c8, c9, c10, c11, c12⟩ := hB0.is
    simp only at c0 c1 c2 c3 c4 c5 c6 c7 c8
    have c : W1.cell? ⟨p, o, none⟩ = some (.int .i64 0) := (hw0.cell (p := ⟨p, o, none⟩) (Nat.lt_of_lt_of_le hp hN)).trans c
    go_wp2_with fail
    go_quiet (fail)
    go_wp2_with fail
    go_ret2
    exact ⟨by simp, by first | exact hw0 | exact belowDrewN hw0⟩
  · have h0b : (a == 0) = false := by simpa using h0
    by_cases h1 : a = nn
    · subst h1
      go_enter Tryz.func122, Tryz.ntmps122
      go_upto_region 1 with fail
      generalize World.alloc w _ = W1 at hB0 hw0 hs0 ⊢
      obtain ⟨c0, c1, c2, c3, c4, c5, c6, c7, c8, c9, c10, c11, c12⟩ := hB0.is
      simp only at c0 c1 c2 c3 c4 c5 c6 c7 c8
      have c : W1.cell? ⟨p, o, none⟩ = some (.int .i64 a) := (hw0.cell (p := ⟨p, o, none⟩) (Nat.lt_of_lt_of_le hp hN)).trans c
      go_wp2_with fail
      go_quiet (fail)
      go_wp2_with fail
      go_ret2
      exact ⟨by simp, by first | exact hw0 | exact belowDrewN hw0⟩
    · have h1b : (a == nn) = false := by simpa using h1
      go_enter Tryz.func122, Tryz.ntmps122
      go_upto_region 1 with fail
      generalize World.alloc w _ = W1 at hB0 hw0 hs0 ⊢
      obtain ⟨c0, c1, c2, c3, c4, c5, c6, c7, c8, c9, c10, c11, c12⟩ := hB0.is
      simp only at c0 c1 c2 c3 c4 c5 c6 c7 c8
      have c : W1.cell? ⟨p, o, none⟩ = some (.int .i64 a) := (hw0.cell (p := ⟨p, o, none⟩) (Nat.lt_of_lt_of_le hp hN)).trans c
      go_wp2_with fail
      go_quiet ((go_at_call 162; refine Calls.quiet_of_same (Tryz.can _ _ _)))
      go_wp2_with fail
      go_ret2
      exact ⟨by rw [h0b, h1b]; rfl, by first | exact hw0 | exact belowDrewN hw0⟩

theorem Tryz.operated (x : Node) (ea : Value) (l : List Int) (ad : Option Addr) (cl N : Nat) (w : World) (hl : IntsAt w N ad l) (hN : N ≤ w.heap.size) (hop : inB x.op 1 27 = true) (hm : rightArgsB 4 x.op l.length = true) (hll : l.length ≤ 1000000000) :
    Calls Tryz.prog 122 #[x.v ea, .slice ad l.length cl] w fun e w' => e = .returned (.tuple #[.int .i64 (operN x.op x.n l).1, .bool (operN x.op x.n l).2]) ∧ Below w.heap.size w w' := by
  obtain ⟨k, op, nn, vk, vn, vs, src, name, dist⟩ := x
  have h27 : op = 1 ∨ op = 2 ∨ op = 3 ∨ op = 4 ∨ op = 5 ∨ op = 6 ∨ op = 7 ∨ op = 8 ∨ op = 9 ∨ op = 10 ∨ op = 11 ∨ op = 12 ∨ op = 13 ∨ op = 14 ∨ op = 15 ∨ op = 16 ∨ op = 17 ∨ op = 18 ∨ op = 19 ∨ op = 20 ∨ op = 21 ∨ op = 22 ∨ op = 23 ∨ op = 24 ∨ op = 25 ∨ op = 26 ∨ op = 27 := by unfold inB at hop; simp at hop; omega
  simp only at hm hop ⊢
  rcases h27 with rfl | rfl | rfl | rfl | rfl | rfl | rfl | rfl | rfl | rfl | rfl | rfl | rfl | rfl | rfl | rfl | rfl | rfl | rfl | rfl | rfl | rfl | rfl | rfl | rfl | rfl | rfl
  · exact Tryz.operated_1 k nn vk vn vs src name dist ea l ad cl N w hl hN (by simp [rightArgsB, arityN] at hm; omega) hll
  · exact Tryz.operated_2 k nn vk vn vs src name dist ea l ad cl N w hl hN (by simp [rightArgsB, arityN] at hm; omega) hll
  · exact Tryz.operated_3 k nn vk vn vs src name dist ea l ad cl N w hl hN (by simp [rightArgsB, arityN] at hm; omega) hll
  · exact Tryz.operated_4 4 k nn vk vn vs src name dist ea l ad cl N w (by omega) hl hN (by simp [rightArgsB, arityN] at hm; omega) hll
  · exact Tryz.operated_4 5 k nn vk vn vs src name dist ea l ad cl N w (by omega) hl hN (by simp [rightArgsB, arityN] at hm; omega) hll
  · exact Tryz.operated_4 6 k nn vk vn vs src name dist ea l ad cl N w (by omega) hl hN (by simp [rightArgsB, arityN] at hm; omega) hll
  · exact Tryz.operated_4 7 k nn vk vn vs src name dist ea l ad cl N w (by omega) hl hN (by simp [rightArgsB, arityN] at hm; omega) hll
  · exact Tryz.operated_4 8 k nn vk vn vs src name dist ea l ad cl N w (by omega) hl hN (by simp [rightArgsB, arityN] at hm; omega) hll
  · exact Tryz.operated_4 9 k nn vk vn vs src name dist ea l ad cl N w (by omega) hl hN (by simp [rightArgsB, arityN] at hm; omega) hll
  · exact Tryz.operated_4 10 k nn vk vn vs src name dist ea l ad cl N w (by omega) hl hN (by simp [rightArgsB, arityN] at hm; omega) hll
  · exact Tryz.operated_11 k nn vk vn vs src name dist ea l ad cl N w hl hN (by simp [rightArgsB, arityN] at hm; omega) hll
  · exact Tryz.operated_12 k nn vk vn vs src name dist ea l ad cl N w hl hN (by simp [rightArgsB, arityN] at hm; omega) hll
  · exact Tryz.operated_13 k nn vk vn vs src name dist ea l ad cl N w hl hN (by simp [rightArgsB, arityN] at hm; omega) hll
  · exact Tryz.operated_14 k nn vk vn vs src name dist ea l ad cl N w hl hN (by simp [rightArgsB, arityN] at hm; omega) hll
  · exact Tryz.operated_15 k nn vk vn vs src name dist ea l ad cl N w hl hN (by simp [rightArgsB, arityN] at hm; omega) hll
  · exact Tryz.operated_16 k nn vk vn vs src name dist ea l ad cl N w hl hN (by simp [rightArgsB, arityN] at hm; omega) hll
  · exact Tryz.operated_17 k nn vk vn vs src name dist ea l ad cl N w hl hN (by simp [rightArgsB, arityN] at hm; omega) hll
  · exact Tryz.operated_18 k nn vk vn vs src name dist ea l ad cl N w hl hN (by simp [rightArgsB, arityN] at hm; omega) hll
  · exact Tryz.operated_19 k nn vk vn vs src name dist ea l ad cl N w hl hN (by simp [rightArgsB, arityN] at hm; omega) hll
  · exact Tryz.operated_20 k nn vk vn vs src name dist ea l ad cl N w hl hN (by simp [rightArgsB, arityN] at hm; omega) hll
  · exact Tryz.operated_21 k nn vk vn vs src name dist ea l ad cl N w hl hN (by simp [rightArgsB, arityN] at hm; omega) hll
  · exact Tryz.operated_22 k nn vk vn vs src name dist ea l ad cl N w hl hN (by simp [rightArgsB, arityN] at hm; omega) hll
  · exact Tryz.operated_23 k nn vk vn vs src name dist ea l ad cl N w hl hN (by simp [rightArgsB, arityN] at hm; omega) hll
  · exact Tryz.operated_24 k nn vk vn vs src name dist ea l ad cl N w hl hN (by simp [rightArgsB, arityN] at hm; omega) hll
  · exact Tryz.operated_25 k nn vk vn vs src name dist ea l ad cl N w hl hN (by simp [rightArgsB, arityN] at hm; omega) hll
  · exact Tryz.operated_26 k nn vk vn vs src name dist ea l ad cl N w hl hN (by simp [rightArgsB, arityN] at hm; omega) hll
  · exact Tryz.operated_27 k nn vk vn vs src name dist ea l ad cl N w hl hN (by simp [rightArgsB, arityN] at hm; omega) hll
end Go.Proofs
