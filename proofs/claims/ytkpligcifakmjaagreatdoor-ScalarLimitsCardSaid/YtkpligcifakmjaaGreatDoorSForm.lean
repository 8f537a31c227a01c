/- Of the document's package: the form of a part of an expression. The condition: the library's table of white space. -/
import Derived.Test.YtkpligcifakmjaaGreatDoorOnlyA
import Derived.Test.YtkpligcifakmjaaGreatDoorOnlyB
namespace Go.Proofs
open Go.RowKit Go.Ke

def sfOk (x : Node) (n : Nat) : Bool :=
  if x.k == 1 then onlyB false false true false false x n
  else if x.k == 2 then onlyB false true false false false x n
  else if x.k == 3 then onlyB false false false true false x n
  else if x.k == 5 then onlyB false false false false true x n && (decide (3 ≤ (n : Int)) && ((n : Int).tmod 2 == 1))
  else if x.k == 6 then onlyB false false false false true x n && decide (2 ≤ (n : Int))
  else (onlyB true false false false true x n || (onlyB true true false false true x n && decide (25 ≤ x.op))) && inB n (argsLo x.op) (argsHi x.op)

def sfN (x : Node) (n : Nat) : Int :=
  if !inB x.k 1 6 || ((x.k == 4) && !inB x.op 1 27) then 4 else if sfOk x n then 0 else 3

set_option maxRecDepth 20000 in
set_option maxHeartbeats 1000000 in
theorem Tryz.sform1 (op nn vk vn : Int) (vs src name : ByteArray) (dist : Bool) (ad : Option Addr) (n cap : Nat) (w : World) (_hn : n ≤ 100000000) (hJ : spaceTab w.heap.size w) : Calls Tryz.prog 126 #[Node.v ⟨1, op, nn, vk, vn, vs, src, name, dist⟩ (.slice ad n cap)] w fun e w' => e = .returned (.int .i64 (sfN ⟨1, op, nn, vk, vn, vs, src, name, dist⟩ n)) ∧ Below w.heap.size w w' := by
  have hw0 : Below w.heap.size w (w.alloc (.cells (Node.cells ⟨1, op, nn, vk, vn, vs, src, name, dist⟩ (.slice ad n cap)) 57)) := (Below.refl _ _).alloc (Nat.le_refl _) _
  have hB0 : Box (w.alloc (.cells (Node.cells ⟨1, op, nn, vk, vn, vs, src, name, dist⟩ (.slice ad n cap)) 57)) w.heap.size ⟨1, op, nn, vk, vn, vs, src, name, dist⟩ (.slice ad n cap) := Box.new _ _ _
  have hin : inB 1 1 6 = true := rfl
  have ho0 : ∀ W : World, spaceTab W.heap.size W → Calls Tryz.prog 163 #[.agg #[.int .i64 1, .int .i64 op, .int .i64 nn, .int .i64 vk, .int .i64 vn, .string vs, .string src, .string name, .bool dist, .slice ad n cap, .slice none 0 0, .slice none 0 0, .slice none 0 0], .string ⟨#[118]⟩] W fun e w' => e = .returned (.bool (onlyB false false true false false ⟨1, op, nn, vk, vn, vs, src, name, dist⟩ n)) ∧ Below W.heap.size W w' := fun W hW => Tryz.only_v ⟨1, op, nn, vk, vn, vs, src, name, dist⟩ ad n cap W hW
  generalize hb0 : onlyB false false true false false ⟨1, op, nn, vk, vn, vs, src, name, dist⟩ n = b0 at ho0
  unfold Node.v
  go_enter Tryz.func126, Tryz.ntmps126
  go_upto_region 1 with fail
  generalize w.alloc (.cells (Node.cells ⟨1, op, nn, vk, vn, vs, src, name, dist⟩ (.slice ad n cap)) 57) = W1 at hB0 hw0 ⊢
  have hJ1 : spaceTab W1.heap.size W1 := Lib.tabBelow_of_tabIs (hJ.on hw0).here
  clear hJ
  obtain ⟨c0, c1, c2, c3, c4, c5, c6, c7, c8, c9, c10, c11, c12⟩ := hB0.is
  simp only at c0 c1 c2 c3 c4 c5 c6 c7 c8
  go_wp2_with (first
    | (go_at_call 57; refine (Tryz.within2 _ _ _ _).mono ?_; rintro e w' ⟨rfl, rfl⟩)
    | (go_at_call 163; with_reducible refine Calls.mono (ho0 _ hJ1) ?_; rintro e w2 ⟨rfl, hb2⟩; have hB2 := hB0.next hb2; have hw2 := below_next hw0 hb2; have hJ2 := space_next hJ1 hb2; clear hb2 hB0 hw0 hJ1; have hB0 := hB2; have hw0 := hw2; have hJ1 := hJ2; clear hB2 hw2 hJ2; obtain ⟨c0, c1, c2, c3, c4, c5, c6, c7, c8, c9, c10, c11, c12⟩ := hB0.is; simp only at c0 c1 c2 c3 c4 c5 c6 c7 c8))
  all_goals
    go_ret
    refine ⟨congrArg (fun z => Ending.returned (.int .i64 z)) ?_, hw0⟩
    show _ = sfN _ _
    unfold sfN sfOk
    first | (simp [*]; done) | grind

set_option maxRecDepth 20000 in
set_option maxHeartbeats 1000000 in
theorem Tryz.sform2 (op nn vk vn : Int) (vs src name : ByteArray) (dist : Bool) (ad : Option Addr) (n cap : Nat) (w : World) (_hn : n ≤ 100000000) (hJ : spaceTab w.heap.size w) : Calls Tryz.prog 126 #[Node.v ⟨2, op, nn, vk, vn, vs, src, name, dist⟩ (.slice ad n cap)] w fun e w' => e = .returned (.int .i64 (sfN ⟨2, op, nn, vk, vn, vs, src, name, dist⟩ n)) ∧ Below w.heap.size w w' := by
  have hw0 : Below w.heap.size w (w.alloc (.cells (Node.cells ⟨2, op, nn, vk, vn, vs, src, name, dist⟩ (.slice ad n cap)) 57)) := (Below.refl _ _).alloc (Nat.le_refl _) _
  have hB0 : Box (w.alloc (.cells (Node.cells ⟨2, op, nn, vk, vn, vs, src, name, dist⟩ (.slice ad n cap)) 57)) w.heap.size ⟨2, op, nn, vk, vn, vs, src, name, dist⟩ (.slice ad n cap) := Box.new _ _ _
  have hin : inB 2 1 6 = true := rfl
  have ho0 : ∀ W : World, spaceTab W.heap.size W → Calls Tryz.prog 163 #[.agg #[.int .i64 2, .int .i64 op, .int .i64 nn, .int .i64 vk, .int .i64 vn, .string vs, .string src, .string name, .bool dist, .slice ad n cap, .slice none 0 0, .slice none 0 0, .slice none 0 0], .string ⟨#[110]⟩] W fun e w' => e = .returned (.bool (onlyB false true false false false ⟨2, op, nn, vk, vn, vs, src, name, dist⟩ n)) ∧ Below W.heap.size W w' := fun W hW => Tryz.only_n ⟨2, op, nn, vk, vn, vs, src, name, dist⟩ ad n cap W hW
  generalize hb0 : onlyB false true false false false ⟨2, op, nn, vk, vn, vs, src, name, dist⟩ n = b0 at ho0
  unfold Node.v
  go_enter Tryz.func126, Tryz.ntmps126
  go_upto_region 1 with fail
  generalize w.alloc (.cells (Node.cells ⟨2, op, nn, vk, vn, vs, src, name, dist⟩ (.slice ad n cap)) 57) = W1 at hB0 hw0 ⊢
  have hJ1 : spaceTab W1.heap.size W1 := Lib.tabBelow_of_tabIs (hJ.on hw0).here
  clear hJ
  obtain ⟨c0, c1, c2, c3, c4, c5, c6, c7, c8, c9, c10, c11, c12⟩ := hB0.is
  simp only at c0 c1 c2 c3 c4 c5 c6 c7 c8
  go_wp2_with (first
    | (go_at_call 57; refine (Tryz.within2 _ _ _ _).mono ?_; rintro e w' ⟨rfl, rfl⟩)
    | (go_at_call 163; with_reducible refine Calls.mono (ho0 _ hJ1) ?_; rintro e w2 ⟨rfl, hb2⟩; have hB2 := hB0.next hb2; have hw2 := below_next hw0 hb2; have hJ2 := space_next hJ1 hb2; clear hb2 hB0 hw0 hJ1; have hB0 := hB2; have hw0 := hw2; have hJ1 := hJ2; clear hB2 hw2 hJ2; obtain ⟨c0, c1, c2, c3, c4, c5, c6, c7, c8, c9, c10, c11, c12⟩ := hB0.is; simp only at c0 c1 c2 c3 c4 c5 c6 c7 c8))
  all_goals
    go_ret
    refine ⟨congrArg (fun z => Ending.returned (.int .i64 z)) ?_, hw0⟩
    show _ = sfN _ _
    unfold sfN sfOk
    first | (simp [*]; done) | grind

set_option maxRecDepth 20000 in
set_option maxHeartbeats 1000000 in
theorem Tryz.sform3 (op nn vk vn : Int) (vs src name : ByteArray) (dist : Bool) (ad : Option Addr) (n cap : Nat) (w : World) (_hn : n ≤ 100000000) (hJ : spaceTab w.heap.size w) : Calls Tryz.prog 126 #[Node.v ⟨3, op, nn, vk, vn, vs, src, name, dist⟩ (.slice ad n cap)] w fun e w' => e = .returned (.int .i64 (sfN ⟨3, op, nn, vk, vn, vs, src, name, dist⟩ n)) ∧ Below w.heap.size w w' := by
  have hw0 : Below w.heap.size w (w.alloc (.cells (Node.cells ⟨3, op, nn, vk, vn, vs, src, name, dist⟩ (.slice ad n cap)) 57)) := (Below.refl _ _).alloc (Nat.le_refl _) _
  have hB0 : Box (w.alloc (.cells (Node.cells ⟨3, op, nn, vk, vn, vs, src, name, dist⟩ (.slice ad n cap)) 57)) w.heap.size ⟨3, op, nn, vk, vn, vs, src, name, dist⟩ (.slice ad n cap) := Box.new _ _ _
  have hin : inB 3 1 6 = true := rfl
  have ho0 : ∀ W : World, spaceTab W.heap.size W → Calls Tryz.prog 163 #[.agg #[.int .i64 3, .int .i64 op, .int .i64 nn, .int .i64 vk, .int .i64 vn, .string vs, .string src, .string name, .bool dist, .slice ad n cap, .slice none 0 0, .slice none 0 0, .slice none 0 0], .string ⟨#[99]⟩] W fun e w' => e = .returned (.bool (onlyB false false false true false ⟨3, op, nn, vk, vn, vs, src, name, dist⟩ n)) ∧ Below W.heap.size W w' := fun W hW => Tryz.only_c ⟨3, op, nn, vk, vn, vs, src, name, dist⟩ ad n cap W hW
  generalize hb0 : onlyB false false false true false ⟨3, op, nn, vk, vn, vs, src, name, dist⟩ n = b0 at ho0
  unfold Node.v
  go_enter Tryz.func126, Tryz.ntmps126
  go_upto_region 1 with fail
  generalize w.alloc (.cells (Node.cells ⟨3, op, nn, vk, vn, vs, src, name, dist⟩ (.slice ad n cap)) 57) = W1 at hB0 hw0 ⊢
  have hJ1 : spaceTab W1.heap.size W1 := Lib.tabBelow_of_tabIs (hJ.on hw0).here
  clear hJ
  obtain ⟨c0, c1, c2, c3, c4, c5, c6, c7, c8, c9, c10, c11, c12⟩ := hB0.is
  simp only at c0 c1 c2 c3 c4 c5 c6 c7 c8
  go_wp2_with (first
    | (go_at_call 57; refine (Tryz.within2 _ _ _ _).mono ?_; rintro e w' ⟨rfl, rfl⟩)
    | (go_at_call 163; with_reducible refine Calls.mono (ho0 _ hJ1) ?_; rintro e w2 ⟨rfl, hb2⟩; have hB2 := hB0.next hb2; have hw2 := below_next hw0 hb2; have hJ2 := space_next hJ1 hb2; clear hb2 hB0 hw0 hJ1; have hB0 := hB2; have hw0 := hw2; have hJ1 := hJ2; clear hB2 hw2 hJ2; obtain ⟨c0, c1, c2, c3, c4, c5, c6, c7, c8, c9, c10, c11, c12⟩ := hB0.is; simp only at c0 c1 c2 c3 c4 c5 c6 c7 c8))
  all_goals
    go_ret
    refine ⟨congrArg (fun z => Ending.returned (.int .i64 z)) ?_, hw0⟩
    show _ = sfN _ _
    unfold sfN sfOk
    first | (simp [*]; done) | grind

set_option maxRecDepth 20000 in
set_option maxHeartbeats 1000000 in
theorem Tryz.sform4 (op nn vk vn : Int) (vs src name : ByteArray) (dist : Bool) (ad : Option Addr) (n cap : Nat) (w : World) (_hn : n ≤ 100000000) (hJ : spaceTab w.heap.size w) : Calls Tryz.prog 126 #[Node.v ⟨4, op, nn, vk, vn, vs, src, name, dist⟩ (.slice ad n cap)] w fun e w' => e = .returned (.int .i64 (sfN ⟨4, op, nn, vk, vn, vs, src, name, dist⟩ n)) ∧ Below w.heap.size w w' := by
  have hw0 : Below w.heap.size w (w.alloc (.cells (Node.cells ⟨4, op, nn, vk, vn, vs, src, name, dist⟩ (.slice ad n cap)) 57)) := (Below.refl _ _).alloc (Nat.le_refl _) _
  have hB0 : Box (w.alloc (.cells (Node.cells ⟨4, op, nn, vk, vn, vs, src, name, dist⟩ (.slice ad n cap)) 57)) w.heap.size ⟨4, op, nn, vk, vn, vs, src, name, dist⟩ (.slice ad n cap) := Box.new _ _ _
  have hin : inB 4 1 6 = true := rfl
  have ho0 : ∀ W : World, spaceTab W.heap.size W → Calls Tryz.prog 163 #[.agg #[.int .i64 4, .int .i64 op, .int .i64 nn, .int .i64 vk, .int .i64 vn, .string vs, .string src, .string name, .bool dist, .slice ad n cap, .slice none 0 0, .slice none 0 0, .slice none 0 0], .string ⟨#[111, 97]⟩] W fun e w' => e = .returned (.bool (onlyB true false false false true ⟨4, op, nn, vk, vn, vs, src, name, dist⟩ n)) ∧ Below W.heap.size W w' := fun W hW => Tryz.only_oa ⟨4, op, nn, vk, vn, vs, src, name, dist⟩ ad n cap W hW
  generalize hb0 : onlyB true false false false true ⟨4, op, nn, vk, vn, vs, src, name, dist⟩ n = b0 at ho0
  have ho1 : ∀ W : World, spaceTab W.heap.size W → Calls Tryz.prog 163 #[.agg #[.int .i64 4, .int .i64 op, .int .i64 nn, .int .i64 vk, .int .i64 vn, .string vs, .string src, .string name, .bool dist, .slice ad n cap, .slice none 0 0, .slice none 0 0, .slice none 0 0], .string ⟨#[111, 110, 97]⟩] W fun e w' => e = .returned (.bool (onlyB true true false false true ⟨4, op, nn, vk, vn, vs, src, name, dist⟩ n)) ∧ Below W.heap.size W w' := fun W hW => Tryz.only_ona ⟨4, op, nn, vk, vn, vs, src, name, dist⟩ ad n cap W hW
  generalize hb1 : onlyB true true false false true ⟨4, op, nn, vk, vn, vs, src, name, dist⟩ n = b1 at ho1
  unfold Node.v
  go_enter Tryz.func126, Tryz.ntmps126
  go_upto_region 1 with fail
  generalize w.alloc (.cells (Node.cells ⟨4, op, nn, vk, vn, vs, src, name, dist⟩ (.slice ad n cap)) 57) = W1 at hB0 hw0 ⊢
  have hJ1 : spaceTab W1.heap.size W1 := Lib.tabBelow_of_tabIs (hJ.on hw0).here
  clear hJ
  obtain ⟨c0, c1, c2, c3, c4, c5, c6, c7, c8, c9, c10, c11, c12⟩ := hB0.is
  simp only at c0 c1 c2 c3 c4 c5 c6 c7 c8
  go_wp2_with (first
    | (go_at_call 57; refine (Tryz.within2 _ _ _ _).mono ?_; rintro e w' ⟨rfl, rfl⟩)
    | (go_at_call 163; with_reducible refine Calls.mono (ho0 _ hJ1) ?_; rintro e w2 ⟨rfl, hb2⟩; have hB2 := hB0.next hb2; have hw2 := below_next hw0 hb2; have hJ2 := space_next hJ1 hb2; clear hb2 hB0 hw0 hJ1; have hB0 := hB2; have hw0 := hw2; have hJ1 := hJ2; clear hB2 hw2 hJ2; obtain ⟨c0, c1, c2, c3, c4, c5, c6, c7, c8, c9, c10, c11, c12⟩ := hB0.is; simp only at c0 c1 c2 c3 c4 c5 c6 c7 c8)
    | (go_at_call 163; with_reducible refine Calls.mono (ho1 _ hJ1) ?_; rintro e w2 ⟨rfl, hb2⟩; have hB2 := hB0.next hb2; have hw2 := below_next hw0 hb2; have hJ2 := space_next hJ1 hb2; clear hb2 hB0 hw0 hJ1; have hB0 := hB2; have hw0 := hw2; have hJ1 := hJ2; clear hB2 hw2 hJ2; obtain ⟨c0, c1, c2, c3, c4, c5, c6, c7, c8, c9, c10, c11, c12⟩ := hB0.is; simp only at c0 c1 c2 c3 c4 c5 c6 c7 c8)
    | (go_at_call 164; refine (Tryz.argsOf _ _).mono ?_; rintro e w' ⟨rfl, rfl⟩)
    | (go_at_call 137; refine (Tryz.numbered _ _).mono ?_; rintro e w' ⟨rfl, rfl⟩))
  all_goals
    go_ret
    refine ⟨congrArg (fun z => Ending.returned (.int .i64 z)) ?_, hw0⟩
    show _ = sfN _ _
    unfold sfN sfOk
    first | (simp [*]; done) | grind

set_option maxRecDepth 20000 in
set_option maxHeartbeats 1000000 in
theorem Tryz.sform5 (op nn vk vn : Int) (vs src name : ByteArray) (dist : Bool) (ad : Option Addr) (n cap : Nat) (w : World) (hn : n ≤ 100000000) (hJ : spaceTab w.heap.size w) : Calls Tryz.prog 126 #[Node.v ⟨5, op, nn, vk, vn, vs, src, name, dist⟩ (.slice ad n cap)] w fun e w' => e = .returned (.int .i64 (sfN ⟨5, op, nn, vk, vn, vs, src, name, dist⟩ n)) ∧ Below w.heap.size w w' := by
  have hw0 : Below w.heap.size w (w.alloc (.cells (Node.cells ⟨5, op, nn, vk, vn, vs, src, name, dist⟩ (.slice ad n cap)) 57)) := (Below.refl _ _).alloc (Nat.le_refl _) _
  have hB0 : Box (w.alloc (.cells (Node.cells ⟨5, op, nn, vk, vn, vs, src, name, dist⟩ (.slice ad n cap)) 57)) w.heap.size ⟨5, op, nn, vk, vn, vs, src, name, dist⟩ (.slice ad n cap) := Box.new _ _ _
  have hin : inB 5 1 6 = true := rfl
  have ho0 : ∀ W : World, spaceTab W.heap.size W → Calls Tryz.prog 163 #[.agg #[.int .i64 5, .int .i64 op, .int .i64 nn, .int .i64 vk, .int .i64 vn, .string vs, .string src, .string name, .bool dist, .slice ad n cap, .slice none 0 0, .slice none 0 0, .slice none 0 0], .string ⟨#[97]⟩] W fun e w' => e = .returned (.bool (onlyB false false false false true ⟨5, op, nn, vk, vn, vs, src, name, dist⟩ n)) ∧ Below W.heap.size W w' := fun W hW => Tryz.only_a ⟨5, op, nn, vk, vn, vs, src, name, dist⟩ ad n cap W hW
  generalize hb0 : onlyB false false false false true ⟨5, op, nn, vk, vn, vs, src, name, dist⟩ n = b0 at ho0
  unfold Node.v
  go_enter Tryz.func126, Tryz.ntmps126
  go_upto_region 1 with fail
  generalize w.alloc (.cells (Node.cells ⟨5, op, nn, vk, vn, vs, src, name, dist⟩ (.slice ad n cap)) 57) = W1 at hB0 hw0 ⊢
  have hJ1 : spaceTab W1.heap.size W1 := Lib.tabBelow_of_tabIs (hJ.on hw0).here
  clear hJ
  obtain ⟨c0, c1, c2, c3, c4, c5, c6, c7, c8, c9, c10, c11, c12⟩ := hB0.is
  simp only at c0 c1 c2 c3 c4 c5 c6 c7 c8
  go_wp2_with (first
    | (go_at_call 57; refine (Tryz.within2 _ _ _ _).mono ?_; rintro e w' ⟨rfl, rfl⟩)
    | (go_at_call 163; with_reducible refine Calls.mono (ho0 _ hJ1) ?_; rintro e w2 ⟨rfl, hb2⟩; have hB2 := hB0.next hb2; have hw2 := below_next hw0 hb2; have hJ2 := space_next hJ1 hb2; clear hb2 hB0 hw0 hJ1; have hB0 := hB2; have hw0 := hw2; have hJ1 := hJ2; clear hB2 hw2 hJ2; obtain ⟨c0, c1, c2, c3, c4, c5, c6, c7, c8, c9, c10, c11, c12⟩ := hB0.is; simp only at c0 c1 c2 c3 c4 c5 c6 c7 c8))
  all_goals
    go_ret
    refine ⟨congrArg (fun z => Ending.returned (.int .i64 z)) ?_, hw0⟩
    show _ = sfN _ _
    unfold sfN sfOk
    first | (simp [*]; done) | grind

set_option maxRecDepth 20000 in
set_option maxHeartbeats 1000000 in
theorem Tryz.sform6 (op nn vk vn : Int) (vs src name : ByteArray) (dist : Bool) (ad : Option Addr) (n cap : Nat) (w : World) (_hn : n ≤ 100000000) (hJ : spaceTab w.heap.size w) : Calls Tryz.prog 126 #[Node.v ⟨6, op, nn, vk, vn, vs, src, name, dist⟩ (.slice ad n cap)] w fun e w' => e = .returned (.int .i64 (sfN ⟨6, op, nn, vk, vn, vs, src, name, dist⟩ n)) ∧ Below w.heap.size w w' := by
  have hw0 : Below w.heap.size w (w.alloc (.cells (Node.cells ⟨6, op, nn, vk, vn, vs, src, name, dist⟩ (.slice ad n cap)) 57)) := (Below.refl _ _).alloc (Nat.le_refl _) _
  have hB0 : Box (w.alloc (.cells (Node.cells ⟨6, op, nn, vk, vn, vs, src, name, dist⟩ (.slice ad n cap)) 57)) w.heap.size ⟨6, op, nn, vk, vn, vs, src, name, dist⟩ (.slice ad n cap) := Box.new _ _ _
  have hin : inB 6 1 6 = true := rfl
  have ho0 : ∀ W : World, spaceTab W.heap.size W → Calls Tryz.prog 163 #[.agg #[.int .i64 6, .int .i64 op, .int .i64 nn, .int .i64 vk, .int .i64 vn, .string vs, .string src, .string name, .bool dist, .slice ad n cap, .slice none 0 0, .slice none 0 0, .slice none 0 0], .string ⟨#[97]⟩] W fun e w' => e = .returned (.bool (onlyB false false false false true ⟨6, op, nn, vk, vn, vs, src, name, dist⟩ n)) ∧ Below W.heap.size W w' := fun W hW => Tryz.only_a ⟨6, op, nn, vk, vn, vs, src, name, dist⟩ ad n cap W hW
  generalize hb0 : onlyB false false false false true ⟨6, op, nn, vk, vn, vs, src, name, dist⟩ n = b0 at ho0
  unfold Node.v
  go_enter Tryz.func126, Tryz.ntmps126
  go_upto_region 1 with fail
  generalize w.alloc (.cells (Node.cells ⟨6, op, nn, vk, vn, vs, src, name, dist⟩ (.slice ad n cap)) 57) = W1 at hB0 hw0 ⊢
  have hJ1 : spaceTab W1.heap.size W1 := Lib.tabBelow_of_tabIs (hJ.on hw0).here
  clear hJ
  obtain ⟨c0, c1, c2, c3, c4, c5, c6, c7, c8, c9, c10, c11, c12⟩ := hB0.is
  simp only at c0 c1 c2 c3 c4 c5 c6 c7 c8
  go_wp2_with (first
    | (go_at_call 57; refine (Tryz.within2 _ _ _ _).mono ?_; rintro e w' ⟨rfl, rfl⟩)
    | (go_at_call 163; with_reducible refine Calls.mono (ho0 _ hJ1) ?_; rintro e w2 ⟨rfl, hb2⟩; have hB2 := hB0.next hb2; have hw2 := below_next hw0 hb2; have hJ2 := space_next hJ1 hb2; clear hb2 hB0 hw0 hJ1; have hB0 := hB2; have hw0 := hw2; have hJ1 := hJ2; clear hB2 hw2 hJ2; obtain ⟨c0, c1, c2, c3, c4, c5, c6, c7, c8, c9, c10, c11, c12⟩ := hB0.is; simp only at c0 c1 c2 c3 c4 c5 c6 c7 c8))
  all_goals
    go_ret
    refine ⟨congrArg (fun z => Ending.returned (.int .i64 z)) ?_, hw0⟩
    show _ = sfN _ _
    unfold sfN sfOk
    first | (simp [*]; done) | grind

set_option maxRecDepth 20000 in
set_option maxHeartbeats 1000000 in
theorem Tryz.sform0 (k : Int) (hin : inB k 1 6 = false) (op nn vk vn : Int) (vs src name : ByteArray) (dist : Bool) (ad : Option Addr) (n cap : Nat) (w : World) (_hn : n ≤ 100000000) (hJ : spaceTab w.heap.size w) : Calls Tryz.prog 126 #[Node.v ⟨k, op, nn, vk, vn, vs, src, name, dist⟩ (.slice ad n cap)] w fun e w' => e = .returned (.int .i64 (sfN ⟨k, op, nn, vk, vn, vs, src, name, dist⟩ n)) ∧ Below w.heap.size w w' := by
  have hw0 : Below w.heap.size w (w.alloc (.cells (Node.cells ⟨k, op, nn, vk, vn, vs, src, name, dist⟩ (.slice ad n cap)) 57)) := (Below.refl _ _).alloc (Nat.le_refl _) _
  have hB0 : Box (w.alloc (.cells (Node.cells ⟨k, op, nn, vk, vn, vs, src, name, dist⟩ (.slice ad n cap)) 57)) w.heap.size ⟨k, op, nn, vk, vn, vs, src, name, dist⟩ (.slice ad n cap) := Box.new _ _ _
  unfold Node.v
  go_enter Tryz.func126, Tryz.ntmps126
  go_upto_region 1 with fail
  generalize w.alloc (.cells (Node.cells ⟨k, op, nn, vk, vn, vs, src, name, dist⟩ (.slice ad n cap)) 57) = W1 at hB0 hw0 ⊢
  have hJ1 : spaceTab W1.heap.size W1 := Lib.tabBelow_of_tabIs (hJ.on hw0).here
  clear hJ
  obtain ⟨c0, c1, c2, c3, c4, c5, c6, c7, c8, c9, c10, c11, c12⟩ := hB0.is
  simp only at c0 c1 c2 c3 c4 c5 c6 c7 c8
  go_wp2_with (first
    | (go_at_call 57; refine (Tryz.within2 _ _ _ _).mono ?_; rintro e w' ⟨rfl, rfl⟩))
  all_goals
    go_ret
    refine ⟨congrArg (fun z => Ending.returned (.int .i64 z)) ?_, hw0⟩
    show _ = sfN _ _
    unfold sfN sfOk
    first | (simp [*]; done) | grind

theorem Tryz.sform (x : Node) (ad : Option Addr) (n cap : Nat) (w : World) (hn : n ≤ 100000000) (hJ : spaceTab w.heap.size w) : Calls Tryz.prog 126 #[x.v (.slice ad n cap)] w fun e w' => e = .returned (.int .i64 (sfN x n)) ∧ Below w.heap.size w w' := by
  obtain ⟨k, op, nn, vk, vn, vs, src, name, dist⟩ := x
  by_cases hin : inB k 1 6 = true
  · have h6 : k = 1 ∨ k = 2 ∨ k = 3 ∨ k = 4 ∨ k = 5 ∨ k = 6 := by unfold inB at hin; simp at hin; omega
    rcases h6 with rfl | rfl | rfl | rfl | rfl | rfl
    · exact Tryz.sform1 op nn vk vn vs src name dist ad n cap w hn hJ
    · exact Tryz.sform2 op nn vk vn vs src name dist ad n cap w hn hJ
    · exact Tryz.sform3 op nn vk vn vs src name dist ad n cap w hn hJ
    · exact Tryz.sform4 op nn vk vn vs src name dist ad n cap w hn hJ
    · exact Tryz.sform5 op nn vk vn vs src name dist ad n cap w hn hJ
    · exact Tryz.sform6 op nn vk vn vs src name dist ad n cap w hn hJ
  · exact Tryz.sform0 k (by simpa using hin) op nn vk vn vs src name dist ad n cap w hn hJ
end Go.Proofs
