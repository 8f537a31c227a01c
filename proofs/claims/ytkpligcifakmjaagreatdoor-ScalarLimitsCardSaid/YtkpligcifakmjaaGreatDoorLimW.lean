/- ScalarLimits: package value writes the text of a tree of the law. The condition: the library's table of white space. -/
import Derived.Test.YtkpligcifakmjaaGreatDoorLimM
import Derived.Test.YtkpligcifakmjaaGreatDoorGate
namespace Go.Proofs
open Go.RowKit Go.Ke

theorem show_one : runC 47 [valV 2 1 ⟨#[]⟩] = some (.string ⟨#[49]⟩) := by kernel_rfl
theorem show_nul : runC 47 [valV 0 0 ⟨#[]⟩] = some (.string ⟨#[110, 117, 108, 108]⟩) := by kernel_rfl
theorem show_x (v : Value) : sumX 47 [v] St.empty = none := rfl
theorem neg_name : opNameS 17 = ⟨#[110, 101, 103]⟩ := by
  have : (opNameS 17).data = #[110, 101, 103] := by decide +kernel
  cases h : opNameS 17 with
  | mk d => rw [h] at this; exact congrArg ByteArray.mk this

theorem Tryz.show1 (w : World) (hJ : spaceTab w.heap.size w) : Calls Tryz.prog 47 #[valV 2 1 ⟨#[]⟩] w fun e w' => e = .returned (.string ⟨#[49]⟩) ∧ Below w.heap.size w w' := pure_call (show_x _) rfl show_one w hJ
theorem Tryz.show0 (w : World) (hJ : spaceTab w.heap.size w) : Calls Tryz.prog 47 #[valV 0 0 ⟨#[]⟩] w fun e w' => e = .returned (.string ⟨#[110, 117, 108, 108]⟩) ∧ Below w.heap.size w w' := pure_call (show_x _) rfl show_nul w hJ

theorem Wr.start {B b : Nat} {bs : List UInt8} {w0 w : World} (h : Wr B b bs w0 w) : Wr B b bs w w := ⟨h.is, Below.refl _ _, Boxes.refl _ _, h.size⟩

set_option maxRecDepth 20000 in
set_option maxHeartbeats 1000000 in
/-- A part without parts. -/
theorem Tryz.writeLeaf (x : Node) (hx : x = oneX ∨ x = nulX) (a : Value) (B b : Nat) (bs : List UInt8) (w : World) (h : Wr B b bs w w) (hlen : bs.length + (wordT x).length ≤ 100000000) (hJ : spaceTab B w) :
    Calls Tryz.prog 133 #[.pointer (some ⟨b, 0, none⟩), x.v a] w fun r w' => r = .returned (.tuple #[]) ∧ Wr B b (bs ++ wordT x) w w' := by
  have hW := (h.alloc (.cells (x.cells a) 57))
  have hB0 : Box (w.alloc (.cells (x.cells a) 57)) w.heap.size x a := Box.new _ _ _
  have hJ1 : spaceTab (w.alloc (.cells (x.cells a) 57)).heap.size (w.alloc (.cells (x.cells a) 57)) := Lib.tabBelow_of_tabIs (hJ.on hW.below).here
  have h1 := Tryz.show1 _ hJ1
  have h0 := Tryz.show0 _ hJ1
  clear hJ1
  unfold valV at h1 h0
  unfold Node.v
  go_enter Tryz.func133, Tryz.ntmps133
  go_upto_region 1 with fail
  generalize w.alloc (.cells (x.cells a) 57) = W1 at hB0 hW h1 h0 ⊢
  obtain ⟨c0, c1, c2, c3, c4, c5, c6, c7, c8, c9, c10, c11, c12⟩ := hB0.is
  rcases hx with rfl | rfl
  · have hs := fun (W : World) (hb : Below W1.heap.size W1 W) => Tryz.writeStr (w0 := w) ⟨#[49]⟩ (hW.call hb) (by exact hlen)
    simp only [oneX, leafX] at c0 c1 c2 c3 c4 c5 c6 c7 c8
    go_wp2_with (first
      | (go_at_call 47; refine h1.mono ?_; rintro r w2 ⟨rfl, hb2⟩)
      | (go_at_call 93; refine (hs _ hb2).mono ?_; rintro r w3 ⟨rfl, hW3⟩))
    (try simp only [Exit.inBlock, Exit.then])
    refine bodyPost_ret (results_none rfl _ _ _) rfl ?_
    exact ⟨rfl, hW3⟩
  · have hs := fun (W : World) (hb : Below W1.heap.size W1 W) => Tryz.writeStr (w0 := w) ⟨#[110, 117, 108, 108]⟩ (hW.call hb) (by exact hlen)
    simp only [nulX, leafX] at c0 c1 c2 c3 c4 c5 c6 c7 c8
    go_wp2_with (first
      | (go_at_call 47; refine h0.mono ?_; rintro r w2 ⟨rfl, hb2⟩)
      | (go_at_call 93; refine (hs _ hb2).mono ?_; rintro r w3 ⟨rfl, hW3⟩))
    (try simp only [Exit.inBlock, Exit.then])
    refine bodyPost_ret (results_none rfl _ _ _) rfl ?_
    exact ⟨rfl, hW3⟩

def WriteC (d : Nat) : Prop := ∀ (e : Ex) (ad : Option Addr) (cap N B b : Nat) (bs : List UInt8) (w : World), ExIs d w N ad cap e → Lim e → N ≤ B → Wr B b bs w w → bs.length + (textT e).length ≤ 100000000 → spaceTab B w →
    Calls Tryz.prog 133 #[.pointer (some ⟨b, 0, none⟩), e.v ad cap] w fun r w' => r = .returned (.tuple #[]) ∧ Wr B b (bs ++ textT e) w w'

/-- What the loop over the parts keeps. -/
def Loopy (B b : Nat) (T : List UInt8) (l : List Ex) (w : World) (k : Nat) (wr : World) : Prop := ∃ cs, Wr B b cs w wr ∧ cs ++ leftT l k = T

theorem Loopy.first {B b : Nat} {T : List UInt8} {l : List Ex} {w wr : World} {k : Nat} (h : Loopy B b T l w k wr) (hl : k < l.length) (h0 : k = 0) (hT : T.length + 1 ≤ 100000000) : ∃ cs, Wr B b cs w wr ∧ cs.length + (textT l[k]).length ≤ 100000000 ∧ (cs ++ textT l[k]) ++ leftT l (k + 1) = T := by
  subst h0
  obtain ⟨cs, h1, h2⟩ := h
  rw [leftT_zero hl] at h2
  refine ⟨cs, h1, ?_, by rw [List.append_assoc]; exact h2⟩
  have := congrArg List.length h2
  simp only [List.length_append] at this
  omega

theorem Loopy.then_ {B b : Nat} {T : List UInt8} {l : List Ex} {w wr : World} {k : Nat} (h : Loopy B b T l w k wr) (hk : k < l.length) (h0 : k ≠ 0) (hT : T.length + 1 ≤ 100000000) :
    ∃ cs, Wr B b cs w wr ∧ cs.length + 1 ≤ 100000000 ∧ (cs ++ [44]).length + (textT l[k]).length ≤ 100000000 ∧ ((cs ++ [44]) ++ textT l[k]) ++ leftT l (k + 1) = T := by
  obtain ⟨cs, h1, h2⟩ := h
  rw [leftT_succ hk h0] at h2
  have := congrArg List.length h2
  simp only [List.length_append, List.length_cons] at this
  refine ⟨cs, h1, by omega, ?_, by rw [← h2]; simp⟩
  simp only [List.length_append, List.length_cons, List.length_nil]
  omega

set_option maxRecDepth 20000 in
set_option maxHeartbeats 2000000 in
/-- A part with parts. -/
theorem Tryz.writeNode {d : Nat} (ihd : WriteC d) (x : Node) (hx : x = opX 17 ∨ x = inX) (l : List Ex) (hparts : ∀ i (hi : i < l.length), Lim l[i]) (ad : Option Addr) (cap N B b : Nat) (bs : List UInt8) (w : World) (hA : NodeArgs d w N ad cap l) (hN : N ≤ B) (h : Wr B b bs w w)
    (hlen : bs.length + (headT x ++ 40 :: (joinT l ++ [41])).length ≤ 100000000) (hJ : spaceTab B w) :
    Calls Tryz.prog 133 #[.pointer (some ⟨b, 0, none⟩), x.v (.slice ad l.length cap)] w fun r w' => r = .returned (.tuple #[]) ∧ Wr B b (bs ++ (headT x ++ 40 :: (joinT l ++ [41]))) w w' := by
  obtain ⟨hl1, hl2, hargs⟩ := hA
  have hW := (h.alloc (.cells (x.cells (.slice ad l.length cap)) 57))
  have hB0 : Box (w.alloc (.cells (x.cells (.slice ad l.length cap)) 57)) w.heap.size x (.slice ad l.length cap) := Box.new _ _ _
  obtain ⟨T, hT⟩ : ∃ T, T = bs ++ (headT x ++ 40 :: joinT l) := ⟨_, rfl⟩
  have hTl : T.length + 1 ≤ 100000000 := by rw [hT]; simp only [List.length_append, List.length_cons, List.length_nil] at hlen ⊢; omega
  have hTe : Hid (T ++ [41] = bs ++ (headT x ++ 40 :: (joinT l ++ [41]))) := Lib.hid (by rw [hT]; simp)
  have hhl : bs.length + (headT x).length + 1 ≤ 100000000 := by simp only [List.length_append, List.length_cons, List.length_nil] at hlen; omega
  replace hT := Lib.hid hT
  have hJ1 : spaceTab (w.alloc (.cells (x.cells (.slice ad l.length cap)) 57)).heap.size (w.alloc (.cells (x.cells (.slice ad l.length cap)) 57)) := Lib.tabBelow_of_tabIs (hJ.on hW.below).here
  have hnm := Tryz.opName 17 _ hJ1
  rw [neg_name] at hnm
  clear hJ1 hlen
  unfold Node.v
  go_enter Tryz.func133, Tryz.ntmps133
  go_upto_region 1 with fail
  generalize w.alloc (.cells (x.cells (.slice ad l.length cap)) 57) = W1 at hB0 hW hnm ⊢
  obtain ⟨c0, c1, c2, c3, c4, c5, c6, c7, c8, c9, c10, c11, c12⟩ := hB0.is
  rcases hx with rfl | rfl
  · simp only [opX] at c0 c1 c2 c3 c4 c5 c6 c7 c8 hB0
    go_wp2_with fail
    refine Calls.mono hnm ?_
    rintro r w2 ⟨rfl, hb2⟩
    have hW2 := hW.call hb2
    have hB2 := hB0.next hb2
    clear hnm
    go_wp2_with fail
    refine Calls.mono (Tryz.writeStr ⟨#[110, 101, 103]⟩ hW2.start (show bs.length + 3 ≤ 100000000 from (by simp [headT, opX] at hhl; omega))) ?_
    rintro r w3 ⟨rfl, hW3'⟩
    have hW3 := hW2.next hW3'
    have hB3 := hB2.boxes hW3'.boxes
    clear c0 c1 c2 c3 c4 c5 c6 c7 c8 c9 c10 c11 c12
    obtain ⟨c0, c1, c2, c3, c4, c5, c6, c7, c8, c9, c10, c11, c12⟩ := hB3.is
    simp only at c0 c1 c2 c3 c4 c5 c6 c7 c8
    go_wp2_with (go_at_call 158; refine (Tryz.uses _ _).mono ?_; rintro r w4 ⟨rfl, rfl⟩)
    go_wp2_with fail
    refine Calls.mono (Tryz.writeByte 40 hW3.start (by simp only [List.length_append, List.length_cons, List.length_nil]; simp [headT, opX] at hhl; omega)) ?_
    rintro r w5 ⟨rfl, hW5'⟩
    have hW5 := hW3.next hW5'
    have hB5 := hB3.boxes hW5'.boxes
    clear c0 c1 c2 c3 c4 c5 c6 c7 c8 c9 c10 c11 c12
    obtain ⟨c0, c1, c2, c3, c4, c5, c6, c7, c8, c9, c10, c11, c12⟩ := hB5.is
    simp only at c0 c1 c2 c3 c4 c5 c6 c7 c8
    have hS : Loopy B b T l w 0 w5 := ⟨_, hW5, by rw [hT.out]; simp [leftT, headT, opX]⟩
    clear hB5 hB3 hW5 hW3 hW5' hW3' hW2 hB2 hb2 hB0 hW
    go_wp2_with fail
    go_loopw [84] (fun i wr => ∃ k : Nat, i = .int .i64 k ∧ k ≤ l.length ∧ Loopy B b T l w k wr) (fun i _ => l.length - (intOf i).toNat)
    case atStart => exact ⟨0, rfl, Nat.zero_le _, hS⟩
    case round =>
      obtain ⟨k, rfl, hk, hL⟩ := hrel
      clear hS
      by_cases hlt : k < l.length
      · obtain ⟨pa, po, bd, bc, rfl, hpa, hca, hex⟩ := hargs k hlt
        by_cases h0 : k = 0
        · have hn0 : ¬ (0 : Int) < k := by omega
          obtain ⟨cs, g1, g2, g3⟩ := hL.first hlt h0 hTl
          clear hL
          obtain ⟨d0, d1, d2, d3, d4, d5, d6, d7, d8, d9, d10, d11, d12⟩ := hca.of (g1.below.block pa (by omega))
          have ih := ihd l[k] bd bc N B b cs (wr.alloc (.cells (l[k].node.cells (.slice bd l[k].args.length bc)) 57)) (hex.below ((g1.alloc _).below.mono hN)) (hparts k hlt) hN (g1.alloc _).start g2 (hJ.on (g1.alloc _).below)
          unfold Ex.v Node.v at ih
          clear hex h0
          generalize textT l[k] = tx at *
          generalize l[k].node = x at *
          generalize l[k].args.length = n at *
          go_wp2_with fail
          refine Calls.mono ih ?_
          rintro r w6 ⟨rfl, hW6⟩
          have hL6 : Loopy B b T l w (k + 1) w6 := ⟨cs ++ tx, (g1.alloc _).next hW6, g3⟩
          clear ih hW6 g1 g2 g3 d0 d1 d2 d3 d4 d5 d6 d7 d8 d9 d10 d11 d12 hca
          go_wp2_with fail
          go_roundw
          case rel => exact ⟨k + 1, by go_num, hlt, hL6⟩
          case measure => simp [intOf]; omega
        · have hn0 : (0 : Int) < k := by omega
          obtain ⟨cs, g1, g2, g3, g4⟩ := hL.then_ hlt h0 hTl
          clear hL
          obtain ⟨d0, d1, d2, d3, d4, d5, d6, d7, d8, d9, d10, d11, d12⟩ := hca.of (g1.below.block pa (by omega))
          have hbx := Box.new wr l[k].node (.slice bd l[k].args.length bc)
          have ga := g1.alloc (.cells (l[k].node.cells (.slice bd l[k].args.length bc)) 57)
          have hwb := Tryz.writeByte 44 ga.start g2
          have ih := fun (W : World) (h1 : Wr B b (cs ++ [44]) w W) => ihd l[k] bd bc N B b (cs ++ [44]) W (hex.below (h1.below.mono hN)) (hparts k hlt) hN h1.start g3 (hJ.on h1.below)
          unfold Ex.v Node.v at ih
          clear hex h0
          generalize textT l[k] = tx at *
          generalize l[k].node = x at *
          generalize l[k].args.length = n at *
          go_wp2_with fail
          refine Calls.mono hwb ?_
          rintro r w6 ⟨rfl, hW6⟩
          have hbx6 := hbx.boxes hW6.boxes
          have ih6 := ih w6 (ga.next hW6)
          have hW6 := ga.next hW6
          clear ih hwb d0 d1 d2 d3 d4 d5 d6 d7 d8 d9 d10 d11 d12 hca
          obtain ⟨d0, d1, d2, d3, d4, d5, d6, d7, d8, d9, d10, d11, d12⟩ := hbx6.is
          go_wp2_with fail
          refine Calls.mono ih6 ?_
          rintro r w7 ⟨rfl, hW7⟩
          have hL7 : Loopy B b T l w (k + 1) w7 := ⟨(cs ++ [44]) ++ tx, hW6.next hW7, g4⟩
          clear ih6 hW6 hW7 g1 g2 g3 g4 d0 d1 d2 d3 d4 d5 d6 d7 d8 d9 d10 d11 d12 ga hbx hbx6
          go_wp2_with fail
          go_roundw
          case rel => exact ⟨k + 1, by go_num, hlt, hL7⟩
          case measure => simp [intOf]; omega
      · have hke : k = l.length := by omega
        obtain ⟨cs, g1, g2⟩ := hL
        have g2' : cs = T := by rw [hke, leftT_end, List.append_nil] at g2; exact g2
        subst g2'
        clear g2
        go_wp2_with fail
        refine Calls.mono (Tryz.writeByte 41 g1.start hTl) ?_
        rintro r w6 ⟨rfl, hW6⟩
        go_wp2_with fail
        go_end0
        rw [← hTe.out]
        exact ⟨rfl, g1.next hW6⟩
  · simp only [inX] at c0 c1 c2 c3 c4 c5 c6 c7 c8 hB0
    go_wp2_with fail
    refine Calls.mono (Tryz.writeStr ⟨#[105, 110]⟩ hW.start (show bs.length + 2 ≤ 100000000 from (by simp [headT, inX] at hhl; omega))) ?_
    rintro r w3 ⟨rfl, hW3'⟩
    have hW3 := hW.next hW3'
    have hB3 := hB0.boxes hW3'.boxes
    clear c0 c1 c2 c3 c4 c5 c6 c7 c8 c9 c10 c11 c12
    obtain ⟨c0, c1, c2, c3, c4, c5, c6, c7, c8, c9, c10, c11, c12⟩ := hB3.is
    simp only at c0 c1 c2 c3 c4 c5 c6 c7 c8
    go_wp2_with fail
    refine Calls.mono (Tryz.writeByte 40 hW3.start (by simp only [List.length_append, List.length_cons, List.length_nil]; simp [headT, inX] at hhl; omega)) ?_
    rintro r w5 ⟨rfl, hW5'⟩
    have hW5 := hW3.next hW5'
    have hB5 := hB3.boxes hW5'.boxes
    clear c0 c1 c2 c3 c4 c5 c6 c7 c8 c9 c10 c11 c12
    obtain ⟨c0, c1, c2, c3, c4, c5, c6, c7, c8, c9, c10, c11, c12⟩ := hB5.is
    simp only at c0 c1 c2 c3 c4 c5 c6 c7 c8
    have hS : Loopy B b T l w 0 w5 := ⟨_, hW5, by rw [hT.out]; simp [leftT, headT, inX]⟩
    clear hB5 hB3 hW5 hW3 hW5' hW3' hnm hB0 hW
    go_wp2_with fail
    go_loopw [84] (fun i wr => ∃ k : Nat, i = .int .i64 k ∧ k ≤ l.length ∧ Loopy B b T l w k wr) (fun i _ => l.length - (intOf i).toNat)
    case atStart => exact ⟨0, rfl, Nat.zero_le _, hS⟩
    case round =>
      obtain ⟨k, rfl, hk, hL⟩ := hrel
      clear hS
      by_cases hlt : k < l.length
      · obtain ⟨pa, po, bd, bc, rfl, hpa, hca, hex⟩ := hargs k hlt
        by_cases h0 : k = 0
        · have hn0 : ¬ (0 : Int) < k := by omega
          obtain ⟨cs, g1, g2, g3⟩ := hL.first hlt h0 hTl
          clear hL
          obtain ⟨d0, d1, d2, d3, d4, d5, d6, d7, d8, d9, d10, d11, d12⟩ := hca.of (g1.below.block pa (by omega))
          have ih := ihd l[k] bd bc N B b cs (wr.alloc (.cells (l[k].node.cells (.slice bd l[k].args.length bc)) 57)) (hex.below ((g1.alloc _).below.mono hN)) (hparts k hlt) hN (g1.alloc _).start g2 (hJ.on (g1.alloc _).below)
          unfold Ex.v Node.v at ih
          clear hex h0
          generalize textT l[k] = tx at *
          generalize l[k].node = x at *
          generalize l[k].args.length = n at *
          go_wp2_with fail
          refine Calls.mono ih ?_
          rintro r w6 ⟨rfl, hW6⟩
          have hL6 : Loopy B b T l w (k + 1) w6 := ⟨cs ++ tx, (g1.alloc _).next hW6, g3⟩
          clear ih hW6 g1 g2 g3 d0 d1 d2 d3 d4 d5 d6 d7 d8 d9 d10 d11 d12 hca
          go_wp2_with fail
          go_roundw
          case rel => exact ⟨k + 1, by go_num, hlt, hL6⟩
          case measure => simp [intOf]; omega
        · have hn0 : (0 : Int) < k := by omega
          obtain ⟨cs, g1, g2, g3, g4⟩ := hL.then_ hlt h0 hTl
          clear hL
          obtain ⟨d0, d1, d2, d3, d4, d5, d6, d7, d8, d9, d10, d11, d12⟩ := hca.of (g1.below.block pa (by omega))
          have hbx := Box.new wr l[k].node (.slice bd l[k].args.length bc)
          have ga := g1.alloc (.cells (l[k].node.cells (.slice bd l[k].args.length bc)) 57)
          have hwb := Tryz.writeByte 44 ga.start g2
          have ih := fun (W : World) (h1 : Wr B b (cs ++ [44]) w W) => ihd l[k] bd bc N B b (cs ++ [44]) W (hex.below (h1.below.mono hN)) (hparts k hlt) hN h1.start g3 (hJ.on h1.below)
          unfold Ex.v Node.v at ih
          clear hex h0
          generalize textT l[k] = tx at *
          generalize l[k].node = x at *
          generalize l[k].args.length = n at *
          go_wp2_with fail
          refine Calls.mono hwb ?_
          rintro r w6 ⟨rfl, hW6⟩
          have hbx6 := hbx.boxes hW6.boxes
          have ih6 := ih w6 (ga.next hW6)
          have hW6 := ga.next hW6
          clear ih hwb d0 d1 d2 d3 d4 d5 d6 d7 d8 d9 d10 d11 d12 hca
          obtain ⟨d0, d1, d2, d3, d4, d5, d6, d7, d8, d9, d10, d11, d12⟩ := hbx6.is
          go_wp2_with fail
          refine Calls.mono ih6 ?_
          rintro r w7 ⟨rfl, hW7⟩
          have hL7 : Loopy B b T l w (k + 1) w7 := ⟨(cs ++ [44]) ++ tx, hW6.next hW7, g4⟩
          clear ih6 hW6 hW7 g1 g2 g3 g4 d0 d1 d2 d3 d4 d5 d6 d7 d8 d9 d10 d11 d12 ga hbx hbx6
          go_wp2_with fail
          go_roundw
          case rel => exact ⟨k + 1, by go_num, hlt, hL7⟩
          case measure => simp [intOf]; omega
      · have hke : k = l.length := by omega
        obtain ⟨cs, g1, g2⟩ := hL
        have g2' : cs = T := by rw [hke, leftT_end, List.append_nil] at g2; exact g2
        subst g2'
        clear g2
        go_wp2_with fail
        refine Calls.mono (Tryz.writeByte 41 g1.start hTl) ?_
        rintro r w6 ⟨rfl, hW6⟩
        go_wp2_with fail
        go_end0
        rw [← hTe.out]
        exact ⟨rfl, g1.next hW6⟩

theorem Tryz.writeExpr : ∀ d, WriteC d
  | 0 => fun _ _ _ _ _ _ _ _ h => h.elim
  | d + 1 => fun e ad cap N B b bs w h hlim hN hW hlen hJ => by
    have hparts : ∀ i (hi : i < e.args.length), Lim e.args[i] := fun i hi => hlim.part hi
    have hnode := hlim.node
    by_cases hk : e.node.k = 1
    · rw [textT_leaf e hk] at hlen ⊢
      refine Tryz.writeLeaf e.node ?_ _ B b bs w hW hlen hJ
      rcases hnode with ⟨hx, _⟩ | ⟨hx, _⟩ | ⟨hx, _⟩ | ⟨hx, _⟩
      · exact .inl hx
      · exact .inr hx
      · rw [hx] at hk; exact absurd hk (by decide)
      · rw [hx] at hk; exact absurd hk (by decide)
    · rw [textT_node e hk] at hlen ⊢
      refine Tryz.writeNode (Tryz.writeExpr d) e.node ?_ e.args hparts ad cap N B b bs w ⟨h.2.1, h.2.2.1, h.2.2.2⟩ hN hW hlen hJ
      rcases hnode with ⟨hx, _⟩ | ⟨hx, _⟩ | ⟨hx, _⟩ | ⟨hx, _⟩
      · exact absurd (by rw [hx]; rfl) hk
      · exact absurd (by rw [hx]; rfl) hk
      · exact .inl hx
      · exact .inr hx

/-- What both packages say of the text of a tree of the law. -/
def saidT (e : Ex) : Value := .tuple #[.string (if (sizesT e 1 0).1 then ⟨(textT e).toArray⟩ else ⟨#[]⟩), .int .i64 (if (sizesT e 1 0).1 then 0 else 2)]

set_option maxRecDepth 20000 in
set_option maxHeartbeats 2000000 in
theorem Tryz.exprText (d : Nat) (e : Ex) (ad : Option Addr) (cap N : Nat) (w : World) (h : ExIs d w N ad cap e) (hlim : Lim e) (hN : N ≤ w.heap.size) (hlen : (textT e).length ≤ 65536) (hJ : spaceTab w.heap.size w) :
    Calls Tryz.prog 88 #[e.v ad cap, .bool false] w fun r w' => r = .returned (saidT e) ∧ Below w.heap.size w w' := by
  have hw0 : Below w.heap.size w (w.alloc (.cells (e.node.cells (.slice ad e.args.length cap)) 57)) := (Below.refl _ _).alloc (Nat.le_refl _) _
  have hB0 : Box (w.alloc (.cells (e.node.cells (.slice ad e.args.length cap)) 57)) w.heap.size e.node (.slice ad e.args.length cap) := Box.new _ _ _
  have hs0 := ex_alloc_size w (.cells (e.node.cells (.slice ad e.args.length cap)) 57)
  have hsm := fun (W : World) (hb : Below w.heap.size w W) => Tryz.small d e ad cap N W (h.below (hb.mono hN)) (Nat.le_trans hN hb.size)
  have hto := fun (W : World) (hb : Below w.heap.size w W) => Tryz.textOf d e ad cap N W (h.below (hb.mono hN)) hlim (Nat.le_trans hN hb.size) (Lib.tabBelow_of_tabIs (hJ.on hb).here)
  unfold Ex.v Node.v at hsm hto
  unfold Ex.v Node.v
  go_enter Tryz.func88, Tryz.ntmps88
  go_upto_region 1 with fail
  generalize w.alloc (.cells (e.node.cells (.slice ad e.args.length cap)) 57) = W1 at hB0 hw0 hs0 ⊢
  obtain ⟨c0, c1, c2, c3, c4, c5, c6, c7, c8, c9, c10, c11, c12⟩ := hB0.is
  cases hz : (sizesT e 1 0).1 with
  | false =>
    have hspec : Hid (saidT e = .tuple #[.string ⟨#[]⟩, .int .i64 2]) := Lib.hid (by unfold saidT; rw [hz]; rfl)
    rw [hz] at hsm
    clear hto
    go_wp2_with fail
    refine Calls.mono (hsm _ hw0) ?_
    rintro r w2 ⟨rfl, hb2⟩
    go_wp2_with fail
    go_ret2
    rw [hspec.out]
    exact ⟨rfl, below_next hw0 hb2⟩
  | true =>
    have hspec : Hid (saidT e = .tuple #[.string ⟨(textT e).toArray⟩, .int .i64 0]) := Lib.hid (by unfold saidT; rw [hz]; rfl)
    rw [hz] at hsm
    go_wp2_with fail
    refine Calls.mono (hsm _ hw0) ?_
    rintro r w2 ⟨rfl, hb2⟩
    have hw2 := below_next hw0 hb2
    have hB2 := hB0.next hb2
    clear c0 c1 c2 c3 c4 c5 c6 c7 c8 c9 c10 c11 c12 hsm
    obtain ⟨c0, c1, c2, c3, c4, c5, c6, c7, c8, c9, c10, c11, c12⟩ := hB2.is
    go_wp2_with fail
    refine Calls.mono (hto _ hw2) ?_
    rintro r w3 ⟨rfl, hb3⟩
    have hw3 := below_next hw2 hb3
    have hB3 := hB2.next hb3
    clear c0 c1 c2 c3 c4 c5 c6 c7 c8 c9 c10 c11 c12 hto
    obtain ⟨c0, c1, c2, c3, c4, c5, c6, c7, c8, c9, c10, c11, c12⟩ := hB3.is
    have hW4 : Wr w3.heap.size w3.heap.size [] (w3.alloc (.cells #[.pointer none, .slice none 0 0] 113)) (w3.alloc (.cells #[.pointer none, .slice none 0 0] 113)) := ⟨Lib.fresh_isBuilder 113 5 w3, Below.refl _ _, Boxes.refl _ _, by rw [ex_alloc_size]; omega⟩
    have hb4 : Below w3.heap.size w3 (w3.alloc (.cells #[.pointer none, .slice none 0 0] 113)) := (Below.refl _ _).alloc (Nat.le_refl _) _
    have hw4 := below_next hw3 hb4
    have hwe := Tryz.writeExpr d e ad cap N w3.heap.size w3.heap.size [] (w3.alloc (.cells #[.pointer none, .slice none 0 0] 113)) (h.below (hw4.mono hN)) hlim (Nat.le_trans hN hw3.size) hW4 (by simpa using (by omega : (textT e).length ≤ 100000000)) ((Lib.tabBelow_of_tabIs (hJ.on hw3).here : spaceTab w3.heap.size w3).on hb4)
    unfold Ex.v Node.v at hwe
    obtain ⟨e0, e1, e2, e3, e4, e5, e6, e7, e8, e9, e10, e11, e12⟩ := (hB3.next hb4).is
    go_wp2_with fail
    refine Calls.mono hwe ?_
    rintro r w5 ⟨rfl, hW5⟩
    rw [List.nil_append] at hW5
    have hln := Tryz.Builder_Len _ _ _ w5 hW5.is
    rw [Lib.byteCells_length] at hln
    have hst := Tryz.Builder_String_any _ _ _ w5 hW5.is hW5.size
    generalize (textT e).length = n at *
    have hn : ¬ (65536 : Int) < n := by omega
    go_wp2_with fail
    refine Calls.mono hln ?_
    rintro r w6 ⟨rfl, hw6⟩
    rw [hw6]
    go_wp2_with fail
    refine Calls.mono hst ?_
    rintro r w7 ⟨rfl, hb7⟩
    go_wp2_with fail
    go_ret2
    rw [hspec.out]
    exact ⟨rfl, below_next hw3 ((hb4.trans hW5.below).trans hb7)⟩

set_option maxRecDepth 20000 in
set_option maxHeartbeats 1000000 in
theorem Tryz.exprTextV (d : Nat) (e : Ex) (ad : Option Addr) (cap N : Nat) (w : World) (h : ExIs d w N ad cap e) (hlim : Lim e) (hN : N ≤ w.heap.size) (hlen : (textT e).length ≤ 65536) (hJ : spaceTab w.heap.size w) :
    Calls Tryz.prog 42 #[e.v ad cap] w fun r w' => r = .returned (saidT e) ∧ Below w.heap.size w w' := by
  have hw0 : Below w.heap.size w (w.alloc (.cells (e.node.cells (.slice ad e.args.length cap)) 57)) := (Below.refl _ _).alloc (Nat.le_refl _) _
  have hB0 : Box (w.alloc (.cells (e.node.cells (.slice ad e.args.length cap)) 57)) w.heap.size e.node (.slice ad e.args.length cap) := Box.new _ _ _
  have het := fun (W : World) (hb : Below w.heap.size w W) => Tryz.exprText d e ad cap N W (h.below (hb.mono hN)) hlim (Nat.le_trans hN hb.size) hlen (Lib.tabBelow_of_tabIs (hJ.on hb).here)
  unfold Ex.v Node.v saidT at het
  unfold saidT
  generalize (if (sizesT e 1 0).1 then (⟨(textT e).toArray⟩ : ByteArray) else ⟨#[]⟩) = s at *
  generalize (if (sizesT e 1 0).1 then (0 : Int) else 2) = f at *
  unfold Ex.v Node.v
  go_enter Tryz.func42, Tryz.ntmps42
  go_upto_region 1 with fail
  generalize w.alloc (.cells (e.node.cells (.slice ad e.args.length cap)) 57) = W1 at hB0 hw0 ⊢
  obtain ⟨c0, c1, c2, c3, c4, c5, c6, c7, c8, c9, c10, c11, c12⟩ := hB0.is
  go_wp2_with fail
  refine Calls.mono (het _ hw0) ?_
  rintro r w2 ⟨rfl, hb2⟩
  go_wp2_with fail
  go_ret2
  exact ⟨rfl, below_next hw0 hb2⟩
end Go.Proofs
