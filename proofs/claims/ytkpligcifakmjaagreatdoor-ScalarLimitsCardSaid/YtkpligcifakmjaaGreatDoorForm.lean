/- Of package value: the form of a part of an expression. The condition: the library's table of white space. -/
import Derived.Test.YtkpligcifakmjaaGreatDoorSkFit
namespace Go.Proofs
open Go.RowKit Go.Ke

set_option maxRecDepth 20000 in
set_option maxHeartbeats 1000000 in
theorem Tryz.formOf1 (x : Node) (hk : x.k = 1) (ad : Option Addr) (n cap : Nat) (w : World) (hx : x.ok) (hJ : spaceTab w.heap.size w) : Calls Tryz.prog 119 #[x.v (.slice ad n cap)] w fun e w' => e = .returned (.int .i64 (formN x n)) ∧ Below w.heap.size w w' := by
  obtain ⟨k, op, nn, vk, vn, vs, src, name, dist⟩ := x
  simp only at hk
  subst hk
  have hw0 : Below w.heap.size w (w.alloc (.cells (Node.cells ⟨1, op, nn, vk, vn, vs, src, name, dist⟩ (.slice ad n cap)) 57)) := (Below.refl _ _).alloc (Nat.le_refl _) _
  have hB0 : Box (w.alloc (.cells (Node.cells ⟨1, op, nn, vk, vn, vs, src, name, dist⟩ (.slice ad n cap)) 57)) w.heap.size ⟨1, op, nn, vk, vn, vs, src, name, dist⟩ (.slice ad n cap) := Box.new _ _ _
  have hsz : vs.size ≤ 9223372036854775807 := by have := hx.vs; simp only at this; omega
  have hcat : src.size + name.size ≤ 9223372036854775807 := by have := hx.src; have := hx.name; simp only at *; omega
  have hgd := guard23
  have hne := neq23
  have hin : inB 1 1 6 = true := rfl
  unfold Node.v
  go_enter Tryz.func119, Tryz.ntmps119
  go_upto_region 1 with fail
  generalize w.alloc (.cells (Node.cells ⟨1, op, nn, vk, vn, vs, src, name, dist⟩ (.slice ad n cap)) 57) = W1 at hB0 hw0 ⊢
  have hJ1 : spaceTab W1.heap.size W1 := Lib.tabBelow_of_tabIs (hJ.on hw0).here
  obtain ⟨c0, c1, c2, c3, c4, c5, c6, c7, c8, c9, c10, c11, c12⟩ := hB0.is
  simp only at c0 c1 c2 c3 c4 c5 c6 c7 c8
  go_wp2_with (first
    | (go_at_call 48; refine (Tryz.within _ _ _ _).mono ?_; rintro e w' ⟨rfl, rfl⟩)
    | (go_at_call 158; refine (Tryz.uses _ _).mono ?_; rintro e w' ⟨rfl, rfl⟩)
    | (go_at_call 157; refine (Tryz.opName _ _ hJ1).mono ?_; rintro e w2 ⟨rfl, hb2⟩; have hB2 := hB0.next hb2; have hw2 := below_next hw0 hb2; clear hb2 hB0 hw0 hJ1; have hB0 := hB2; have hw0 := hw2; clear hB2 hw2; obtain ⟨c0, c1, c2, c3, c4, c5, c6, c7, c8, c9, c10, c11, c12⟩ := hB0.is; simp only at c0 c1 c2 c3 c4 c5 c6 c7 c8)
    | (go_at_call 159; refine (Tryz.rightArgs ⟨_, _, _, _, _, _, _, _, _⟩ _ _ _ _).mono ?_; rintro e w2 ⟨rfl, hb2⟩; have hB2 := hB0.next hb2; have hw2 := below_next hw0 hb2; clear hb2 hB0 hw0; have hB0 := hB2; have hw0 := hw2; clear hB2 hw2; obtain ⟨c0, c1, c2, c3, c4, c5, c6, c7, c8, c9, c10, c11, c12⟩ := hB0.is; simp only at c0 c1 c2 c3 c4 c5 c6 c7 c8)
    | (go_at_call 49; refine (Tryz.form _ _ _ _).mono ?_; rintro e w2 ⟨rfl, hb2⟩; have hw2 := below_next hw0 hb2; clear hb2 hw0; have hw0 := hw2; clear hw2)
    | (go_at_call 10; refine (Tryz.check _ _ _ _ hsz _).mono ?_; rintro e w2 ⟨rfl, hb2⟩; have hw2 := below_next hw0 hb2; clear hb2 hw0; have hw0 := hw2; clear hw2))
  all_goals
    go_ret
    refine ⟨congrArg (fun z => Ending.returned (.int .i64 z)) ?_, hw0⟩
    show _ = formN _ _
    unfold formN
    first | (simp [*]; done) | grind

set_option maxRecDepth 20000 in
set_option maxHeartbeats 1000000 in
theorem Tryz.formOf2 (x : Node) (hk : x.k = 2) (ad : Option Addr) (n cap : Nat) (w : World) (hx : x.ok) (hJ : spaceTab w.heap.size w) : Calls Tryz.prog 119 #[x.v (.slice ad n cap)] w fun e w' => e = .returned (.int .i64 (formN x n)) ∧ Below w.heap.size w w' := by
  obtain ⟨k, op, nn, vk, vn, vs, src, name, dist⟩ := x
  simp only at hk
  subst hk
  have hw0 : Below w.heap.size w (w.alloc (.cells (Node.cells ⟨2, op, nn, vk, vn, vs, src, name, dist⟩ (.slice ad n cap)) 57)) := (Below.refl _ _).alloc (Nat.le_refl _) _
  have hB0 : Box (w.alloc (.cells (Node.cells ⟨2, op, nn, vk, vn, vs, src, name, dist⟩ (.slice ad n cap)) 57)) w.heap.size ⟨2, op, nn, vk, vn, vs, src, name, dist⟩ (.slice ad n cap) := Box.new _ _ _
  have hsz : vs.size ≤ 9223372036854775807 := by have := hx.vs; simp only at this; omega
  have hcat : src.size + name.size ≤ 9223372036854775807 := by have := hx.src; have := hx.name; simp only at *; omega
  have hgd := guard23
  have hne := neq23
  have hin : inB 2 1 6 = true := rfl
  unfold Node.v
  go_enter Tryz.func119, Tryz.ntmps119
  go_upto_region 1 with fail
  generalize w.alloc (.cells (Node.cells ⟨2, op, nn, vk, vn, vs, src, name, dist⟩ (.slice ad n cap)) 57) = W1 at hB0 hw0 ⊢
  have hJ1 : spaceTab W1.heap.size W1 := Lib.tabBelow_of_tabIs (hJ.on hw0).here
  obtain ⟨c0, c1, c2, c3, c4, c5, c6, c7, c8, c9, c10, c11, c12⟩ := hB0.is
  simp only at c0 c1 c2 c3 c4 c5 c6 c7 c8
  go_wp2_with (first
    | (go_at_call 48; refine (Tryz.within _ _ _ _).mono ?_; rintro e w' ⟨rfl, rfl⟩)
    | (go_at_call 158; refine (Tryz.uses _ _).mono ?_; rintro e w' ⟨rfl, rfl⟩)
    | (go_at_call 157; refine (Tryz.opName _ _ hJ1).mono ?_; rintro e w2 ⟨rfl, hb2⟩; have hB2 := hB0.next hb2; have hw2 := below_next hw0 hb2; clear hb2 hB0 hw0 hJ1; have hB0 := hB2; have hw0 := hw2; clear hB2 hw2; obtain ⟨c0, c1, c2, c3, c4, c5, c6, c7, c8, c9, c10, c11, c12⟩ := hB0.is; simp only at c0 c1 c2 c3 c4 c5 c6 c7 c8)
    | (go_at_call 159; refine (Tryz.rightArgs ⟨_, _, _, _, _, _, _, _, _⟩ _ _ _ _).mono ?_; rintro e w2 ⟨rfl, hb2⟩; have hB2 := hB0.next hb2; have hw2 := below_next hw0 hb2; clear hb2 hB0 hw0; have hB0 := hB2; have hw0 := hw2; clear hB2 hw2; obtain ⟨c0, c1, c2, c3, c4, c5, c6, c7, c8, c9, c10, c11, c12⟩ := hB0.is; simp only at c0 c1 c2 c3 c4 c5 c6 c7 c8)
    | (go_at_call 49; refine (Tryz.form _ _ _ _).mono ?_; rintro e w2 ⟨rfl, hb2⟩; have hw2 := below_next hw0 hb2; clear hb2 hw0; have hw0 := hw2; clear hw2)
    | (go_at_call 10; refine (Tryz.check _ _ _ _ hsz _).mono ?_; rintro e w2 ⟨rfl, hb2⟩; have hw2 := below_next hw0 hb2; clear hb2 hw0; have hw0 := hw2; clear hw2))
  all_goals
    go_ret
    refine ⟨congrArg (fun z => Ending.returned (.int .i64 z)) ?_, hw0⟩
    show _ = formN _ _
    unfold formN
    first | (simp [*]; done) | grind

set_option maxRecDepth 20000 in
set_option maxHeartbeats 1000000 in
theorem Tryz.formOf3 (x : Node) (hk : x.k = 3) (ad : Option Addr) (n cap : Nat) (w : World) (hx : x.ok) (hJ : spaceTab w.heap.size w) : Calls Tryz.prog 119 #[x.v (.slice ad n cap)] w fun e w' => e = .returned (.int .i64 (formN x n)) ∧ Below w.heap.size w w' := by
  obtain ⟨k, op, nn, vk, vn, vs, src, name, dist⟩ := x
  simp only at hk
  subst hk
  have hw0 : Below w.heap.size w (w.alloc (.cells (Node.cells ⟨3, op, nn, vk, vn, vs, src, name, dist⟩ (.slice ad n cap)) 57)) := (Below.refl _ _).alloc (Nat.le_refl _) _
  have hB0 : Box (w.alloc (.cells (Node.cells ⟨3, op, nn, vk, vn, vs, src, name, dist⟩ (.slice ad n cap)) 57)) w.heap.size ⟨3, op, nn, vk, vn, vs, src, name, dist⟩ (.slice ad n cap) := Box.new _ _ _
  have hsz : vs.size ≤ 9223372036854775807 := by have := hx.vs; simp only at this; omega
  have hcat : src.size + name.size ≤ 9223372036854775807 := by have := hx.src; have := hx.name; simp only at *; omega
  have hgd := guard23
  have hne := neq23
  have hin : inB 3 1 6 = true := rfl
  unfold Node.v
  go_enter Tryz.func119, Tryz.ntmps119
  go_upto_region 1 with fail
  generalize w.alloc (.cells (Node.cells ⟨3, op, nn, vk, vn, vs, src, name, dist⟩ (.slice ad n cap)) 57) = W1 at hB0 hw0 ⊢
  have hJ1 : spaceTab W1.heap.size W1 := Lib.tabBelow_of_tabIs (hJ.on hw0).here
  obtain ⟨c0, c1, c2, c3, c4, c5, c6, c7, c8, c9, c10, c11, c12⟩ := hB0.is
  simp only at c0 c1 c2 c3 c4 c5 c6 c7 c8
  go_wp2_with (first
    | (go_at_call 48; refine (Tryz.within _ _ _ _).mono ?_; rintro e w' ⟨rfl, rfl⟩)
    | (go_at_call 158; refine (Tryz.uses _ _).mono ?_; rintro e w' ⟨rfl, rfl⟩)
    | (go_at_call 157; refine (Tryz.opName _ _ hJ1).mono ?_; rintro e w2 ⟨rfl, hb2⟩; have hB2 := hB0.next hb2; have hw2 := below_next hw0 hb2; clear hb2 hB0 hw0 hJ1; have hB0 := hB2; have hw0 := hw2; clear hB2 hw2; obtain ⟨c0, c1, c2, c3, c4, c5, c6, c7, c8, c9, c10, c11, c12⟩ := hB0.is; simp only at c0 c1 c2 c3 c4 c5 c6 c7 c8)
    | (go_at_call 159; refine (Tryz.rightArgs ⟨_, _, _, _, _, _, _, _, _⟩ _ _ _ _).mono ?_; rintro e w2 ⟨rfl, hb2⟩; have hB2 := hB0.next hb2; have hw2 := below_next hw0 hb2; clear hb2 hB0 hw0; have hB0 := hB2; have hw0 := hw2; clear hB2 hw2; obtain ⟨c0, c1, c2, c3, c4, c5, c6, c7, c8, c9, c10, c11, c12⟩ := hB0.is; simp only at c0 c1 c2 c3 c4 c5 c6 c7 c8)
    | (go_at_call 49; refine (Tryz.form _ _ _ _).mono ?_; rintro e w2 ⟨rfl, hb2⟩; have hw2 := below_next hw0 hb2; clear hb2 hw0; have hw0 := hw2; clear hw2)
    | (go_at_call 10; refine (Tryz.check _ _ _ _ hsz _).mono ?_; rintro e w2 ⟨rfl, hb2⟩; have hw2 := below_next hw0 hb2; clear hb2 hw0; have hw0 := hw2; clear hw2))
  all_goals
    go_ret
    refine ⟨congrArg (fun z => Ending.returned (.int .i64 z)) ?_, hw0⟩
    show _ = formN _ _
    unfold formN
    first | (simp [*]; done) | grind

set_option maxRecDepth 20000 in
set_option maxHeartbeats 1000000 in
theorem Tryz.formOf4 (x : Node) (hk : x.k = 4) (ad : Option Addr) (n cap : Nat) (w : World) (hx : x.ok) (hJ : spaceTab w.heap.size w) : Calls Tryz.prog 119 #[x.v (.slice ad n cap)] w fun e w' => e = .returned (.int .i64 (formN x n)) ∧ Below w.heap.size w w' := by
  obtain ⟨k, op, nn, vk, vn, vs, src, name, dist⟩ := x
  simp only at hk
  subst hk
  have hw0 : Below w.heap.size w (w.alloc (.cells (Node.cells ⟨4, op, nn, vk, vn, vs, src, name, dist⟩ (.slice ad n cap)) 57)) := (Below.refl _ _).alloc (Nat.le_refl _) _
  have hB0 : Box (w.alloc (.cells (Node.cells ⟨4, op, nn, vk, vn, vs, src, name, dist⟩ (.slice ad n cap)) 57)) w.heap.size ⟨4, op, nn, vk, vn, vs, src, name, dist⟩ (.slice ad n cap) := Box.new _ _ _
  have hsz : vs.size ≤ 9223372036854775807 := by have := hx.vs; simp only at this; omega
  have hcat : src.size + name.size ≤ 9223372036854775807 := by have := hx.src; have := hx.name; simp only at *; omega
  have hgd := guard23
  have hne := neq23
  have hin : inB 4 1 6 = true := rfl
  have hcs : (inB op 1 27 = true ∧ (opNameS op).toList ≠ []) ∨ (inB op 1 27 = false ∧ (opNameS op).toList = []) := by
    have hl := opNameS_law op
    cases hi : inB op 1 27 with
    | true => rw [hi] at hl; left; refine ⟨rfl, fun h => ?_⟩; rw [h] at hl; simp at hl
    | false => rw [hi] at hl; right; exact ⟨rfl, by simpa using hl⟩
  unfold Node.v
  rcases hcs with ⟨hi, hcs⟩ | ⟨hi, hcs⟩
  all_goals
    go_enter Tryz.func119, Tryz.ntmps119
    go_upto_region 1 with fail
    generalize w.alloc (.cells (Node.cells ⟨4, op, nn, vk, vn, vs, src, name, dist⟩ (.slice ad n cap)) 57) = W1 at hB0 hw0 ⊢
    have hJ1 : spaceTab W1.heap.size W1 := Lib.tabBelow_of_tabIs (hJ.on hw0).here
    obtain ⟨c0, c1, c2, c3, c4, c5, c6, c7, c8, c9, c10, c11, c12⟩ := hB0.is
    simp only at c0 c1 c2 c3 c4 c5 c6 c7 c8
    go_wp2_with (first
      | (go_at_call 48; refine (Tryz.within _ _ _ _).mono ?_; rintro e w' ⟨rfl, rfl⟩)
      | (go_at_call 158; refine (Tryz.uses _ _).mono ?_; rintro e w' ⟨rfl, rfl⟩)
      | (go_at_call 157; refine (Tryz.opName _ _ hJ1).mono ?_; rintro e w2 ⟨rfl, hb2⟩; have hB2 := hB0.next hb2; have hw2 := below_next hw0 hb2; clear hb2 hB0 hw0 hJ1; have hB0 := hB2; have hw0 := hw2; clear hB2 hw2; obtain ⟨c0, c1, c2, c3, c4, c5, c6, c7, c8, c9, c10, c11, c12⟩ := hB0.is; simp only at c0 c1 c2 c3 c4 c5 c6 c7 c8)
      | (go_at_call 159; refine (Tryz.rightArgs ⟨_, _, _, _, _, _, _, _, _⟩ _ _ _ _).mono ?_; rintro e w2 ⟨rfl, hb2⟩; have hB2 := hB0.next hb2; have hw2 := below_next hw0 hb2; clear hb2 hB0 hw0; have hB0 := hB2; have hw0 := hw2; clear hB2 hw2; obtain ⟨c0, c1, c2, c3, c4, c5, c6, c7, c8, c9, c10, c11, c12⟩ := hB0.is; simp only at c0 c1 c2 c3 c4 c5 c6 c7 c8)
      | (go_at_call 49; refine (Tryz.form _ _ _ _).mono ?_; rintro e w2 ⟨rfl, hb2⟩; have hw2 := below_next hw0 hb2; clear hb2 hw0; have hw0 := hw2; clear hw2)
      | (go_at_call 10; refine (Tryz.check _ _ _ _ hsz _).mono ?_; rintro e w2 ⟨rfl, hb2⟩; have hw2 := below_next hw0 hb2; clear hb2 hw0; have hw0 := hw2; clear hw2))
    all_goals
      go_ret
      refine ⟨congrArg (fun z => Ending.returned (.int .i64 z)) ?_, hw0⟩
      show _ = formN _ _
      unfold formN
      first | (simp [*]; done) | grind

set_option maxRecDepth 20000 in
set_option maxHeartbeats 1000000 in
theorem Tryz.formOf5 (x : Node) (hk : x.k = 5) (ad : Option Addr) (n cap : Nat) (w : World) (hx : x.ok) (hJ : spaceTab w.heap.size w) : Calls Tryz.prog 119 #[x.v (.slice ad n cap)] w fun e w' => e = .returned (.int .i64 (formN x n)) ∧ Below w.heap.size w w' := by
  obtain ⟨k, op, nn, vk, vn, vs, src, name, dist⟩ := x
  simp only at hk
  subst hk
  have hw0 : Below w.heap.size w (w.alloc (.cells (Node.cells ⟨5, op, nn, vk, vn, vs, src, name, dist⟩ (.slice ad n cap)) 57)) := (Below.refl _ _).alloc (Nat.le_refl _) _
  have hB0 : Box (w.alloc (.cells (Node.cells ⟨5, op, nn, vk, vn, vs, src, name, dist⟩ (.slice ad n cap)) 57)) w.heap.size ⟨5, op, nn, vk, vn, vs, src, name, dist⟩ (.slice ad n cap) := Box.new _ _ _
  have hsz : vs.size ≤ 9223372036854775807 := by have := hx.vs; simp only at this; omega
  have hcat : src.size + name.size ≤ 9223372036854775807 := by have := hx.src; have := hx.name; simp only at *; omega
  have hgd := guard23
  have hne := neq23
  have hin : inB 5 1 6 = true := rfl
  unfold Node.v
  go_enter Tryz.func119, Tryz.ntmps119
  go_upto_region 1 with fail
  generalize w.alloc (.cells (Node.cells ⟨5, op, nn, vk, vn, vs, src, name, dist⟩ (.slice ad n cap)) 57) = W1 at hB0 hw0 ⊢
  have hJ1 : spaceTab W1.heap.size W1 := Lib.tabBelow_of_tabIs (hJ.on hw0).here
  obtain ⟨c0, c1, c2, c3, c4, c5, c6, c7, c8, c9, c10, c11, c12⟩ := hB0.is
  simp only at c0 c1 c2 c3 c4 c5 c6 c7 c8
  go_wp2_with (first
    | (go_at_call 48; refine (Tryz.within _ _ _ _).mono ?_; rintro e w' ⟨rfl, rfl⟩)
    | (go_at_call 158; refine (Tryz.uses _ _).mono ?_; rintro e w' ⟨rfl, rfl⟩)
    | (go_at_call 157; refine (Tryz.opName _ _ hJ1).mono ?_; rintro e w2 ⟨rfl, hb2⟩; have hB2 := hB0.next hb2; have hw2 := below_next hw0 hb2; clear hb2 hB0 hw0 hJ1; have hB0 := hB2; have hw0 := hw2; clear hB2 hw2; obtain ⟨c0, c1, c2, c3, c4, c5, c6, c7, c8, c9, c10, c11, c12⟩ := hB0.is; simp only at c0 c1 c2 c3 c4 c5 c6 c7 c8)
    | (go_at_call 159; refine (Tryz.rightArgs ⟨_, _, _, _, _, _, _, _, _⟩ _ _ _ _).mono ?_; rintro e w2 ⟨rfl, hb2⟩; have hB2 := hB0.next hb2; have hw2 := below_next hw0 hb2; clear hb2 hB0 hw0; have hB0 := hB2; have hw0 := hw2; clear hB2 hw2; obtain ⟨c0, c1, c2, c3, c4, c5, c6, c7, c8, c9, c10, c11, c12⟩ := hB0.is; simp only at c0 c1 c2 c3 c4 c5 c6 c7 c8)
    | (go_at_call 49; refine (Tryz.form _ _ _ _).mono ?_; rintro e w2 ⟨rfl, hb2⟩; have hw2 := below_next hw0 hb2; clear hb2 hw0; have hw0 := hw2; clear hw2)
    | (go_at_call 10; refine (Tryz.check _ _ _ _ hsz _).mono ?_; rintro e w2 ⟨rfl, hb2⟩; have hw2 := below_next hw0 hb2; clear hb2 hw0; have hw0 := hw2; clear hw2))
  all_goals
    go_ret
    refine ⟨congrArg (fun z => Ending.returned (.int .i64 z)) ?_, hw0⟩
    show _ = formN _ _
    unfold formN
    first | (simp [*]; done) | grind

set_option maxRecDepth 20000 in
set_option maxHeartbeats 1000000 in
theorem Tryz.formOf6 (x : Node) (hk : x.k = 6) (ad : Option Addr) (n cap : Nat) (w : World) (hx : x.ok) (hJ : spaceTab w.heap.size w) : Calls Tryz.prog 119 #[x.v (.slice ad n cap)] w fun e w' => e = .returned (.int .i64 (formN x n)) ∧ Below w.heap.size w w' := by
  obtain ⟨k, op, nn, vk, vn, vs, src, name, dist⟩ := x
  simp only at hk
  subst hk
  have hw0 : Below w.heap.size w (w.alloc (.cells (Node.cells ⟨6, op, nn, vk, vn, vs, src, name, dist⟩ (.slice ad n cap)) 57)) := (Below.refl _ _).alloc (Nat.le_refl _) _
  have hB0 : Box (w.alloc (.cells (Node.cells ⟨6, op, nn, vk, vn, vs, src, name, dist⟩ (.slice ad n cap)) 57)) w.heap.size ⟨6, op, nn, vk, vn, vs, src, name, dist⟩ (.slice ad n cap) := Box.new _ _ _
  have hsz : vs.size ≤ 9223372036854775807 := by have := hx.vs; simp only at this; omega
  have hcat : src.size + name.size ≤ 9223372036854775807 := by have := hx.src; have := hx.name; simp only at *; omega
  have hgd := guard23
  have hne := neq23
  have hin : inB 6 1 6 = true := rfl
  unfold Node.v
  go_enter Tryz.func119, Tryz.ntmps119
  go_upto_region 1 with fail
  generalize w.alloc (.cells (Node.cells ⟨6, op, nn, vk, vn, vs, src, name, dist⟩ (.slice ad n cap)) 57) = W1 at hB0 hw0 ⊢
  have hJ1 : spaceTab W1.heap.size W1 := Lib.tabBelow_of_tabIs (hJ.on hw0).here
  obtain ⟨c0, c1, c2, c3, c4, c5, c6, c7, c8, c9, c10, c11, c12⟩ := hB0.is
  simp only at c0 c1 c2 c3 c4 c5 c6 c7 c8
  go_wp2_with (first
    | (go_at_call 48; refine (Tryz.within _ _ _ _).mono ?_; rintro e w' ⟨rfl, rfl⟩)
    | (go_at_call 158; refine (Tryz.uses _ _).mono ?_; rintro e w' ⟨rfl, rfl⟩)
    | (go_at_call 157; refine (Tryz.opName _ _ hJ1).mono ?_; rintro e w2 ⟨rfl, hb2⟩; have hB2 := hB0.next hb2; have hw2 := below_next hw0 hb2; clear hb2 hB0 hw0 hJ1; have hB0 := hB2; have hw0 := hw2; clear hB2 hw2; obtain ⟨c0, c1, c2, c3, c4, c5, c6, c7, c8, c9, c10, c11, c12⟩ := hB0.is; simp only at c0 c1 c2 c3 c4 c5 c6 c7 c8)
    | (go_at_call 159; refine (Tryz.rightArgs ⟨_, _, _, _, _, _, _, _, _⟩ _ _ _ _).mono ?_; rintro e w2 ⟨rfl, hb2⟩; have hB2 := hB0.next hb2; have hw2 := below_next hw0 hb2; clear hb2 hB0 hw0; have hB0 := hB2; have hw0 := hw2; clear hB2 hw2; obtain ⟨c0, c1, c2, c3, c4, c5, c6, c7, c8, c9, c10, c11, c12⟩ := hB0.is; simp only at c0 c1 c2 c3 c4 c5 c6 c7 c8)
    | (go_at_call 49; refine (Tryz.form _ _ _ _).mono ?_; rintro e w2 ⟨rfl, hb2⟩; have hw2 := below_next hw0 hb2; clear hb2 hw0; have hw0 := hw2; clear hw2)
    | (go_at_call 10; refine (Tryz.check _ _ _ _ hsz _).mono ?_; rintro e w2 ⟨rfl, hb2⟩; have hw2 := below_next hw0 hb2; clear hb2 hw0; have hw0 := hw2; clear hw2))
  all_goals
    go_ret
    refine ⟨congrArg (fun z => Ending.returned (.int .i64 z)) ?_, hw0⟩
    show _ = formN _ _
    unfold formN
    first | (simp [*]; done) | grind

set_option maxRecDepth 20000 in
theorem Tryz.formOf (x : Node) (ad : Option Addr) (n cap : Nat) (w : World) (hx : x.ok) (hJ : spaceTab w.heap.size w) : Calls Tryz.prog 119 #[x.v (.slice ad n cap)] w fun e w' => e = .returned (.int .i64 (formN x n)) ∧ Below w.heap.size w w' := by
  by_cases h1 : x.k = 1
  · exact Tryz.formOf1 x h1 ad n cap w hx hJ
  by_cases h2 : x.k = 2
  · exact Tryz.formOf2 x h2 ad n cap w hx hJ
  by_cases h3 : x.k = 3
  · exact Tryz.formOf3 x h3 ad n cap w hx hJ
  by_cases h4 : x.k = 4
  · exact Tryz.formOf4 x h4 ad n cap w hx hJ
  by_cases h5 : x.k = 5
  · exact Tryz.formOf5 x h5 ad n cap w hx hJ
  by_cases h6 : x.k = 6
  · exact Tryz.formOf6 x h6 ad n cap w hx hJ
  have hno : inB x.k 1 6 = false := by unfold inB; simp; omega
  have hf : Hid (formN x n = 4) := Lib.hid (by unfold formN; rw [hno]; rfl)
  have hw0 : Below w.heap.size w (w.alloc (.cells (x.cells (.slice ad n cap)) 57)) := (Below.refl _ _).alloc (Nat.le_refl _) _
  have hB0 : Box (w.alloc (.cells (x.cells (.slice ad n cap)) 57)) w.heap.size x (.slice ad n cap) := Box.new _ _ _
  clear h1 h2 h3 h4 h5 h6
  unfold Node.v
  go_enter Tryz.func119, Tryz.ntmps119
  go_upto_region 1 with fail
  generalize w.alloc (.cells (x.cells (.slice ad n cap)) 57) = W1 at hB0 hw0 ⊢
  obtain ⟨c0, c1, c2, c3, c4, c5, c6, c7, c8, c9, c10, c11, c12⟩ := hB0.is
  go_wp2_with (first | (go_at_call 48; refine (Tryz.within _ _ _ _).mono ?_; rintro e w' ⟨rfl, rfl⟩))
  go_ret
  rw [hf.out]
  exact ⟨rfl, hw0⟩

end Go.Proofs
