/- Of the document's package: whether an expression without columns can be written. The condition: the library's table of white space. -/
import Derived.Test.YtkpligcifakmjaaGreatDoorScal
namespace Go.Proofs
open Go.RowKit Go.Ke

def nodeF (x : Node) (ks : List Int) : Int × Int :=
  if sfN x ks.length == 0 then leafF x else (0, sfN x ks.length)

mutual
def noColT : Ex → Bool
  | .mk x l => (x.k != 3) && noColL l
def noColL : List Ex → Bool
  | [] => true
  | a :: l => noColT a && noColL l
end

theorem noColL_get {l : List Ex} (h : noColL l = true) {i : Nat} (hi : i < l.length) : noColT l[i] = true := by
  induction l generalizing i with
  | nil => simp at hi
  | cons a l ih =>
    unfold noColL at h
    rw [Bool.and_eq_true] at h
    cases i with
    | zero => exact h.1
    | succ i => exact ih h.2 (by simpa using hi)

/-- What is claimed of trees of at most d levels. -/
def ScalFC (cs : List Col) (ps : List Int) (cad pad : Option Addr) (cc pc N d : Nat) : Prop :=
  ∀ (e : Ex) (ad : Option Addr) (cap : Nat) (w : World), ExIs d w N ad cap e → ColsAt w N cad cs → IntsAt w N pad ps → N ≤ w.heap.size → spaceTab w.heap.size w → noColT e = true →
    Calls Tryz.prog 86 #[e.v ad cap, .slice cad cs.length cc, .slice pad ps.length pc, .bool false] w fun r w' => r = .returned (.tuple #[.int .i64 (foldT nodeF e).1, .int .i64 (foldT nodeF e).2]) ∧ Below w.heap.size w w'

theorem leafF_range (x : Node) : 0 ≤ (leafF x).1 ∧ (leafF x).1 ≤ 4 := by
  unfold leafF
  by_cases h1 : (x.k == 1) = true
  · rw [if_pos h1]
    by_cases hf : (faultN 0 x.vk x.vn x.vs == 0) = true
    · rw [if_pos hf]; exact fault_kind (by simpa using hf)
    · rw [if_neg hf]; exact ⟨Int.le_refl 0, by show (0 : Int) ≤ 4; decide⟩
  · rw [if_neg h1]
    split
    · split <;> exact ⟨Int.le_refl 0, by show (0 : Int) ≤ 4; decide⟩
    · split
      · split <;> exact ⟨Int.le_refl 0, by show (0 : Int) ≤ 4; decide⟩
      · exact ⟨Int.le_refl 0, by show (0 : Int) ≤ 4; decide⟩

theorem nodeF_range (x : Node) (ks : List Int) : 0 ≤ (nodeF x ks).1 ∧ (nodeF x ks).1 ≤ 4 := by
  unfold nodeF
  split
  · exact leafF_range x
  · exact ⟨Int.le_refl 0, by show (0 : Int) ≤ 4; decide⟩

set_option maxRecDepth 20000 in
set_option maxHeartbeats 2000000 in
theorem Tryz.scalfA (k : Int) (op nn vk vn : Int) (vs src name : ByteArray) (dist : Bool) (hk3 : k ≠ 3) (l : List Ex) (ad : Option Addr) (cap d N : Nat) (cs : List Col) (ps : List Int) (cad pad : Option Addr) (cc pc : Nat) (w : World) (ih : ScalFC cs ps cad pad cc pc N d)
    (hA : NodeArgs d w N ad cap l) (hxok : Node.ok ⟨k, op, nn, vk, vn, vs, src, name, dist⟩) (hcs : ColsAt w N cad cs) (hps : IntsAt w N pad ps) (hN : N ≤ w.heap.size) (hcl : cs.length ≤ 1000000) (hpl : ps.length ≤ 1000000) (_hpk : ∀ q ∈ ps, 0 ≤ q ∧ q ≤ 4) (_hck : ∀ q ∈ cs, 0 ≤ q.kind ∧ q.kind ≤ 4) (hJ : spaceTab w.heap.size w) (hnc : noColL l = true) :
    Calls Tryz.prog 86 #[Node.v ⟨k, op, nn, vk, vn, vs, src, name, dist⟩ (.slice ad l.length cap), .slice cad cs.length cc, .slice pad ps.length pc, .bool false] w fun r w' => r = .returned (.tuple #[.int .i64 (foldT nodeF (.mk ⟨k, op, nn, vk, vn, vs, src, name, dist⟩ l)).1, .int .i64 (foldT nodeF (.mk ⟨k, op, nn, vk, vn, vs, src, name, dist⟩ l)).2]) ∧ Below w.heap.size w w' := by
  obtain ⟨i3, hi3, hz3, hs3, hb3⟩ := info_parts Tryz.info3'
  obtain ⟨hlen, hcap, hargs⟩ := hA
  have hrange := fold_kinds (f := nodeF) (fun x k _ _ => nodeF_range x k)
  have hw0 : Below w.heap.size w (w.alloc (.cells (Node.cells ⟨k, op, nn, vk, vn, vs, src, name, dist⟩ (.slice ad l.length cap)) 57)) := (Below.refl _ _).alloc (Nat.le_refl _) _
  have hB0 : Box (w.alloc (.cells (Node.cells ⟨k, op, nn, vk, vn, vs, src, name, dist⟩ (.slice ad l.length cap)) 57)) w.heap.size ⟨k, op, nn, vk, vn, vs, src, name, dist⟩ (.slice ad l.length cap) := Box.new _ _ _
  have hs0 := ex_alloc_size w (.cells (Node.cells ⟨k, op, nn, vk, vn, vs, src, name, dist⟩ (.slice ad l.length cap)) 57)
  unfold Node.v
  go_enter Tryz.func86, Tryz.ntmps86
  go_upto_region 1 with fail
  generalize (w.alloc (.cells (Node.cells ⟨k, op, nn, vk, vn, vs, src, name, dist⟩ (.slice ad l.length cap)) 57)) = W1 at hB0 hw0 hs0 ⊢
  replace hs0 : w.heap.size < W1.heap.size := by omega
  have c9 := hB0.is.c9
  go_wp2_with fail
  clear c9
  go_loopw [10, 22] (fun v i wr => ∃ (i0 : Nat) (acc : List Int), i = .int .i64 i0 ∧ acc.length = i0 ∧ i0 ≤ l.length ∧ (∀ q ∈ acc, 0 ≤ q ∧ q ≤ 4) ∧ Own w.heap.size 3 1 v acc.length (intCells acc) w wr ∧ Box wr w.heap.size ⟨k, op, nn, vk, vn, vs, src, name, dist⟩ (.slice ad l.length cap) ∧ w.heap.size < wr.heap.size ∧ Hid (behindK acc (foldL nodeF (l.drop i0)) = foldL nodeF l)) (fun _ i _ => l.length - (intOf i).toNat)
  case atStart => exact ⟨0, [], rfl, rfl, Nat.zero_le _, by simp, ⟨World.ownsRow_nil _ _ _ _, hw0, by omega⟩, hB0, by omega, Lib.hid (behindK_nil _ _)⟩
  case round =>
    obtain ⟨i0, acc, rfl, hacc, hk, hra, hO, hB, hsz, hsp⟩ := hrel
    clear hB0 hw0 hs0
    have hwr := hO.2.1
    have hszr := hO.2.2
    by_cases hlt : i0 < l.length
    · obtain ⟨pa, po, bd, bc, rfl, hpa, hca, hex⟩ := hargs i0 hlt
      have hcr := hca.of (hwr.block pa (by omega))
      obtain ⟨d0, d1, d2, d3, d4, d5, d6, d7, d8, d9, d10, d11, d12⟩ := hcr
      have hwA : Below wr.heap.size wr (wr.alloc (.cells (l[i0].node.cells (.slice bd l[i0].args.length bc)) 57)) := (Below.refl _ _).alloc (Nat.le_refl _) _
      have hwB := below_next hwr hwA
      have hJA : spaceTab (wr.alloc (.cells (l[i0].node.cells (.slice bd l[i0].args.length bc)) 57)).heap.size (wr.alloc (.cells (l[i0].node.cells (.slice bd l[i0].args.length bc)) 57)) := Lib.tabBelow_of_tabIs (hJ.on hwB).here
      have hi := ih l[i0] bd bc (wr.alloc (.cells (l[i0].node.cells (.slice bd l[i0].args.length bc)) 57)) (hex.below (hwB.mono hN)) (hcs.below (hwB.mono hN)) (hps.below (hwB.mono hN)) (Nat.le_trans hN hwB.size) hJA (noColL_get hnc hlt)
      have hrk := hrange l[i0]
      have hdr : l.drop i0 = l[i0] :: l.drop (i0 + 1) := List.drop_eq_getElem_cons hlt
      have hst := hsp.out
      rw [hdr] at hst
      have hgood := behindK_good (f := nodeF) (a := l[i0]) (l := l.drop (i0 + 1)) acc
      have hbad := behindK_bad (f := nodeF) (a := l[i0]) (l := l.drop (i0 + 1)) acc
      clear hca hex hdr hsp
      by_cases hz : (foldT nodeF l[i0]).2 = 0
      · replace hst := (hgood hz).symm.trans hst
        have hrk := hrk hz
        rw [hz] at hi
        clear hgood hbad hz
        generalize (foldT nodeF l[i0]).1 = z at *
        replace hst := Lib.hid hst
        go_wp2_with (first
          | (go_at_call 86; refine hi.mono ?_; rintro r w2 ⟨rfl, hb2⟩; have hwk := below_next hwA hb2; have hO1 := hO.call hwk; have hB1 := hB.next hwk; have hsz1 := hwk.size)
          | (at_builtin; refine append_int ?_ (.tmp 37) (.tmp 39) 28 ?_ w.heap.size 3 i3 Tryz.underlying28 hi3 hz3 hs3 hb3 _ _ _ w _ hO1 z (by omega) ?_ ?_ ?_; rfl; rfl; rfl; exact ⟨_, rfl, rfl⟩; intro v3 w3 hO3 hbx))
        go_roundw
        case rel => exact ⟨i0 + 1, acc ++ [z], by go_num, by simp [hacc], by omega, kinds_snoc hra hrk, hO3.snoc, (hbx 57 (by decide)).2 _ _ _ hB1, Nat.lt_of_lt_of_le (by omega) (hbx 57 (by decide)).1, hst⟩
        case measure => simp [intOf]; omega
      · replace hst := (hbad hz).symm.trans hst
        have hfin : foldT nodeF (.mk ⟨k, op, nn, vk, vn, vs, src, name, dist⟩ l) = (0, (foldT nodeF l[i0]).2) := by
          show (if (foldL nodeF l).2 = 0 then _ else (0, (foldL nodeF l).2)) = _
          rw [← hst, if_neg hz]
        clear hgood hbad hst hrk
        generalize (foldT nodeF l[i0]).1 = z at hi
        generalize (foldT nodeF l[i0]).2 = u at *
        have hz2 : (u != 0) = true := by simpa using hz
        replace hfin := Lib.hid hfin
        clear hz
        go_wp2_with (first
          | (go_at_call 86; refine hi.mono ?_; rintro r w2 ⟨rfl, hb2⟩))
        go_ret2
        rw [hfin.out]
        exact ⟨rfl, below_next hwB hb2⟩
    · have hst := hsp.out
      rw [List.drop_of_length_le (by omega), behindK_end] at hst
      have hlen2 : acc.length = l.length := by omega
      have hfin : foldT nodeF (.mk ⟨k, op, nn, vk, vn, vs, src, name, dist⟩ l) = nodeF ⟨k, op, nn, vk, vn, vs, src, name, dist⟩ acc := by
        show (if (foldL nodeF l).2 = 0 then nodeF ⟨k, op, nn, vk, vn, vs, src, name, dist⟩ (foldL nodeF l).1 else (0, (foldL nodeF l).2)) = _
        rw [← hst]; rfl
      replace hfin := Lib.hid hfin
      obtain ⟨ad', cap', rfl, hI, hcap'⟩ := hO.ints2 (kinds_range hra)
      have hJr : spaceTab wr.heap.size wr := Lib.tabBelow_of_tabIs (hJ.on hwr).here
      rw [hlen2] at hcap' ⊢
      have hfo : sfN ⟨k, op, nn, vk, vn, vs, src, name, dist⟩ acc.length = sfN ⟨k, op, nn, vk, vn, vs, src, name, dist⟩ l.length := by rw [hlen2]
      obtain ⟨c0, c1, c2, c3, c4, c5, c6, c7, c8, c9, c10, c11, c12⟩ := hB.is
      simp only at c0 c1 c2 c3 c4 c5 c6 c7 c8
      clear hst hsp hargs ih hrange
      rcases kk_cases k with hin | rfl | rfl | rfl | rfl | rfl | rfl
      · have hfm := Tryz.sform ⟨k, op, nn, vk, vn, vs, src, name, dist⟩ ad l.length cap wr (by omega) hJr
        have hf0 : ¬ sfN ⟨k, op, nn, vk, vn, vs, src, name, dist⟩ l.length = 0 := by unfold sfN; simp [hin]
        have hspec : nodeF ⟨k, op, nn, vk, vn, vs, src, name, dist⟩ acc = (0, sfN ⟨k, op, nn, vk, vn, vs, src, name, dist⟩ l.length) := by unfold nodeF; rw [hfo, if_neg (by simpa using hf0)]
        replace hspec := Lib.hid (hfin.out.trans hspec)
        have hf1 : (sfN ⟨k, op, nn, vk, vn, vs, src, name, dist⟩ l.length != 0) = true := by simpa using hf0
        clear hfo hf0
        generalize sfN ⟨k, op, nn, vk, vn, vs, src, name, dist⟩ l.length = fm at *
        go_wp2_with (first | (go_at_call 126; refine hfm.mono ?_; rintro e w2 ⟨rfl, hb2⟩; have hB2 := hB.next hb2; have hw2 := below_next hwr hb2; have hI2 := hI.below hb2; clear hB; have hB := hB2; clear hB2; obtain ⟨c0, c1, c2, c3, c4, c5, c6, c7, c8, c9, c10, c11, c12⟩ := hB.is; simp only at c0 c1 c2 c3 c4 c5 c6 c7 c8))
        go_ret2
        rw [hspec.out]
        exact ⟨rfl, hw2⟩
      · have hfm := Tryz.sform ⟨1, op, nn, vk, vn, vs, src, name, dist⟩ ad l.length cap wr (by omega) hJr
        by_cases hf0 : sfN ⟨1, op, nn, vk, vn, vs, src, name, dist⟩ l.length = 0
        · rw [hf0] at hfm
          have hlf := fun (W : World) (h : Below w.heap.size w W) => Tryz.leafN cs ps cad pad cc pc N ⟨1, op, nn, vk, vn, vs, src, name, dist⟩ (.slice ad l.length cap) W (hcs.below (h.mono hN)) (hps.below (h.mono hN)) (Nat.le_trans hN h.size) hcl hpl hxok rfl (show (1 : Int) ≠ 3 by decide)
          by_cases hz : (leafF ⟨1, op, nn, vk, vn, vs, src, name, dist⟩).2 = 0
          · have hspec : nodeF ⟨1, op, nn, vk, vn, vs, src, name, dist⟩ acc = ((leafF ⟨1, op, nn, vk, vn, vs, src, name, dist⟩).1, 0) := by unfold nodeF; rw [hfo, if_pos (by simpa using hf0)]; exact Prod.ext rfl hz
            replace hspec := Lib.hid (hfin.out.trans hspec)
            rw [hz] at hlf
            generalize (leafF ⟨1, op, nn, vk, vn, vs, src, name, dist⟩).1 = z at *
            clear hfo hf0 hz
            go_wp2_with (first
              | (go_at_call 126; refine hfm.mono ?_; rintro e w2 ⟨rfl, hb2⟩; have hB2 := hB.next hb2; have hw2 := below_next hwr hb2; have hI2 := hI.below hb2; clear hB; have hB := hB2; clear hB2; obtain ⟨c0, c1, c2, c3, c4, c5, c6, c7, c8, c9, c10, c11, c12⟩ := hB.is; simp only at c0 c1 c2 c3 c4 c5 c6 c7 c8)
              | (go_at_call 127; refine (hlf _ hw2).mono ?_; rintro e w4 ⟨rfl, hb4⟩; have hw4 := below_next hw2 hb4; have hb24 := below_next hb2 hb4; have hB4 := hB.next hb4; clear hB; have hB := hB4; clear hB4; obtain ⟨c0, c1, c2, c3, c4, c5, c6, c7, c8, c9, c10, c11, c12⟩ := hB.is; simp only at c0 c1 c2 c3 c4 c5 c6 c7 c8))
            go_ret2
            rw [hspec.out]
            exact ⟨rfl, hw4⟩
          · have hspec : nodeF ⟨1, op, nn, vk, vn, vs, src, name, dist⟩ acc = ((leafF ⟨1, op, nn, vk, vn, vs, src, name, dist⟩).1, (leafF ⟨1, op, nn, vk, vn, vs, src, name, dist⟩).2) := by unfold nodeF; rw [hfo, if_pos (by simpa using hf0)]
            replace hspec := Lib.hid (hfin.out.trans hspec)
            generalize (leafF ⟨1, op, nn, vk, vn, vs, src, name, dist⟩).1 = z at *
            generalize (leafF ⟨1, op, nn, vk, vn, vs, src, name, dist⟩).2 = u at *
            have hz2 : (u != 0) = true := by simpa using hz
            clear hfo hf0 hz
            go_wp2_with (first
              | (go_at_call 126; refine hfm.mono ?_; rintro e w2 ⟨rfl, hb2⟩; have hB2 := hB.next hb2; have hw2 := below_next hwr hb2; have hI2 := hI.below hb2; clear hB; have hB := hB2; clear hB2; obtain ⟨c0, c1, c2, c3, c4, c5, c6, c7, c8, c9, c10, c11, c12⟩ := hB.is; simp only at c0 c1 c2 c3 c4 c5 c6 c7 c8)
              | (go_at_call 127; refine (hlf _ hw2).mono ?_; rintro e w4 ⟨rfl, hb4⟩; have hw4 := below_next hw2 hb4; have hb24 := below_next hb2 hb4; have hB4 := hB.next hb4; clear hB; have hB := hB4; clear hB4; obtain ⟨c0, c1, c2, c3, c4, c5, c6, c7, c8, c9, c10, c11, c12⟩ := hB.is; simp only at c0 c1 c2 c3 c4 c5 c6 c7 c8))
            go_ret2
            rw [hspec.out]
            exact ⟨rfl, hw4⟩
        · have hspec : nodeF ⟨1, op, nn, vk, vn, vs, src, name, dist⟩ acc = (0, sfN ⟨1, op, nn, vk, vn, vs, src, name, dist⟩ l.length) := by unfold nodeF; rw [hfo, if_neg (by simpa using hf0)]
          replace hspec := Lib.hid (hfin.out.trans hspec)
          have hf1 : (sfN ⟨1, op, nn, vk, vn, vs, src, name, dist⟩ l.length != 0) = true := by simpa using hf0
          clear hfo hf0
          generalize sfN ⟨1, op, nn, vk, vn, vs, src, name, dist⟩ l.length = fm at *
          go_wp2_with (first | (go_at_call 126; refine hfm.mono ?_; rintro e w2 ⟨rfl, hb2⟩; have hB2 := hB.next hb2; have hw2 := below_next hwr hb2; have hI2 := hI.below hb2; clear hB; have hB := hB2; clear hB2; obtain ⟨c0, c1, c2, c3, c4, c5, c6, c7, c8, c9, c10, c11, c12⟩ := hB.is; simp only at c0 c1 c2 c3 c4 c5 c6 c7 c8))
          go_ret2
          rw [hspec.out]
          exact ⟨rfl, hw2⟩
      · have hfm := Tryz.sform ⟨2, op, nn, vk, vn, vs, src, name, dist⟩ ad l.length cap wr (by omega) hJr
        by_cases hf0 : sfN ⟨2, op, nn, vk, vn, vs, src, name, dist⟩ l.length = 0
        · rw [hf0] at hfm
          have hlf := fun (W : World) (h : Below w.heap.size w W) => Tryz.leafN cs ps cad pad cc pc N ⟨2, op, nn, vk, vn, vs, src, name, dist⟩ (.slice ad l.length cap) W (hcs.below (h.mono hN)) (hps.below (h.mono hN)) (Nat.le_trans hN h.size) hcl hpl hxok rfl (show (2 : Int) ≠ 3 by decide)
          by_cases hz : (leafF ⟨2, op, nn, vk, vn, vs, src, name, dist⟩).2 = 0
          · have hspec : nodeF ⟨2, op, nn, vk, vn, vs, src, name, dist⟩ acc = ((leafF ⟨2, op, nn, vk, vn, vs, src, name, dist⟩).1, 0) := by unfold nodeF; rw [hfo, if_pos (by simpa using hf0)]; exact Prod.ext rfl hz
            replace hspec := Lib.hid (hfin.out.trans hspec)
            rw [hz] at hlf
            generalize (leafF ⟨2, op, nn, vk, vn, vs, src, name, dist⟩).1 = z at *
            clear hfo hf0 hz
            go_wp2_with (first
              | (go_at_call 126; refine hfm.mono ?_; rintro e w2 ⟨rfl, hb2⟩; have hB2 := hB.next hb2; have hw2 := below_next hwr hb2; have hI2 := hI.below hb2; clear hB; have hB := hB2; clear hB2; obtain ⟨c0, c1, c2, c3, c4, c5, c6, c7, c8, c9, c10, c11, c12⟩ := hB.is; simp only at c0 c1 c2 c3 c4 c5 c6 c7 c8)
              | (go_at_call 127; refine (hlf _ hw2).mono ?_; rintro e w4 ⟨rfl, hb4⟩; have hw4 := below_next hw2 hb4; have hb24 := below_next hb2 hb4; have hB4 := hB.next hb4; clear hB; have hB := hB4; clear hB4; obtain ⟨c0, c1, c2, c3, c4, c5, c6, c7, c8, c9, c10, c11, c12⟩ := hB.is; simp only at c0 c1 c2 c3 c4 c5 c6 c7 c8))
            go_ret2
            rw [hspec.out]
            exact ⟨rfl, hw4⟩
          · have hspec : nodeF ⟨2, op, nn, vk, vn, vs, src, name, dist⟩ acc = ((leafF ⟨2, op, nn, vk, vn, vs, src, name, dist⟩).1, (leafF ⟨2, op, nn, vk, vn, vs, src, name, dist⟩).2) := by unfold nodeF; rw [hfo, if_pos (by simpa using hf0)]
            replace hspec := Lib.hid (hfin.out.trans hspec)
            generalize (leafF ⟨2, op, nn, vk, vn, vs, src, name, dist⟩).1 = z at *
            generalize (leafF ⟨2, op, nn, vk, vn, vs, src, name, dist⟩).2 = u at *
            have hz2 : (u != 0) = true := by simpa using hz
            clear hfo hf0 hz
            go_wp2_with (first
              | (go_at_call 126; refine hfm.mono ?_; rintro e w2 ⟨rfl, hb2⟩; have hB2 := hB.next hb2; have hw2 := below_next hwr hb2; have hI2 := hI.below hb2; clear hB; have hB := hB2; clear hB2; obtain ⟨c0, c1, c2, c3, c4, c5, c6, c7, c8, c9, c10, c11, c12⟩ := hB.is; simp only at c0 c1 c2 c3 c4 c5 c6 c7 c8)
              | (go_at_call 127; refine (hlf _ hw2).mono ?_; rintro e w4 ⟨rfl, hb4⟩; have hw4 := below_next hw2 hb4; have hb24 := below_next hb2 hb4; have hB4 := hB.next hb4; clear hB; have hB := hB4; clear hB4; obtain ⟨c0, c1, c2, c3, c4, c5, c6, c7, c8, c9, c10, c11, c12⟩ := hB.is; simp only at c0 c1 c2 c3 c4 c5 c6 c7 c8))
            go_ret2
            rw [hspec.out]
            exact ⟨rfl, hw4⟩
        · have hspec : nodeF ⟨2, op, nn, vk, vn, vs, src, name, dist⟩ acc = (0, sfN ⟨2, op, nn, vk, vn, vs, src, name, dist⟩ l.length) := by unfold nodeF; rw [hfo, if_neg (by simpa using hf0)]
          replace hspec := Lib.hid (hfin.out.trans hspec)
          have hf1 : (sfN ⟨2, op, nn, vk, vn, vs, src, name, dist⟩ l.length != 0) = true := by simpa using hf0
          clear hfo hf0
          generalize sfN ⟨2, op, nn, vk, vn, vs, src, name, dist⟩ l.length = fm at *
          go_wp2_with (first | (go_at_call 126; refine hfm.mono ?_; rintro e w2 ⟨rfl, hb2⟩; have hB2 := hB.next hb2; have hw2 := below_next hwr hb2; have hI2 := hI.below hb2; clear hB; have hB := hB2; clear hB2; obtain ⟨c0, c1, c2, c3, c4, c5, c6, c7, c8, c9, c10, c11, c12⟩ := hB.is; simp only at c0 c1 c2 c3 c4 c5 c6 c7 c8))
          go_ret2
          rw [hspec.out]
          exact ⟨rfl, hw2⟩
      · exact absurd rfl hk3
      · have hfm := Tryz.sform ⟨4, op, nn, vk, vn, vs, src, name, dist⟩ ad l.length cap wr (by omega) hJr
        by_cases hf0 : sfN ⟨4, op, nn, vk, vn, vs, src, name, dist⟩ l.length = 0
        · rw [hf0] at hfm
          have hlf := fun (W : World) (h : Below w.heap.size w W) => Tryz.leafN cs ps cad pad cc pc N ⟨4, op, nn, vk, vn, vs, src, name, dist⟩ (.slice ad l.length cap) W (hcs.below (h.mono hN)) (hps.below (h.mono hN)) (Nat.le_trans hN h.size) hcl hpl hxok rfl (show (4 : Int) ≠ 3 by decide)
          by_cases hz : (leafF ⟨4, op, nn, vk, vn, vs, src, name, dist⟩).2 = 0
          · have hspec : nodeF ⟨4, op, nn, vk, vn, vs, src, name, dist⟩ acc = ((leafF ⟨4, op, nn, vk, vn, vs, src, name, dist⟩).1, 0) := by unfold nodeF; rw [hfo, if_pos (by simpa using hf0)]; exact Prod.ext rfl hz
            replace hspec := Lib.hid (hfin.out.trans hspec)
            rw [hz] at hlf
            generalize (leafF ⟨4, op, nn, vk, vn, vs, src, name, dist⟩).1 = z at *
            clear hfo hf0 hz
            go_wp2_with (first
              | (go_at_call 126; refine hfm.mono ?_; rintro e w2 ⟨rfl, hb2⟩; have hB2 := hB.next hb2; have hw2 := below_next hwr hb2; have hI2 := hI.below hb2; clear hB; have hB := hB2; clear hB2; obtain ⟨c0, c1, c2, c3, c4, c5, c6, c7, c8, c9, c10, c11, c12⟩ := hB.is; simp only at c0 c1 c2 c3 c4 c5 c6 c7 c8)
              | (go_at_call 127; refine (hlf _ hw2).mono ?_; rintro e w4 ⟨rfl, hb4⟩; have hw4 := below_next hw2 hb4; have hb24 := below_next hb2 hb4; have hB4 := hB.next hb4; clear hB; have hB := hB4; clear hB4; obtain ⟨c0, c1, c2, c3, c4, c5, c6, c7, c8, c9, c10, c11, c12⟩ := hB.is; simp only at c0 c1 c2 c3 c4 c5 c6 c7 c8))
            go_ret2
            rw [hspec.out]
            exact ⟨rfl, hw4⟩
          · have hspec : nodeF ⟨4, op, nn, vk, vn, vs, src, name, dist⟩ acc = ((leafF ⟨4, op, nn, vk, vn, vs, src, name, dist⟩).1, (leafF ⟨4, op, nn, vk, vn, vs, src, name, dist⟩).2) := by unfold nodeF; rw [hfo, if_pos (by simpa using hf0)]
            replace hspec := Lib.hid (hfin.out.trans hspec)
            generalize (leafF ⟨4, op, nn, vk, vn, vs, src, name, dist⟩).1 = z at *
            generalize (leafF ⟨4, op, nn, vk, vn, vs, src, name, dist⟩).2 = u at *
            have hz2 : (u != 0) = true := by simpa using hz
            clear hfo hf0 hz
            go_wp2_with (first
              | (go_at_call 126; refine hfm.mono ?_; rintro e w2 ⟨rfl, hb2⟩; have hB2 := hB.next hb2; have hw2 := below_next hwr hb2; have hI2 := hI.below hb2; clear hB; have hB := hB2; clear hB2; obtain ⟨c0, c1, c2, c3, c4, c5, c6, c7, c8, c9, c10, c11, c12⟩ := hB.is; simp only at c0 c1 c2 c3 c4 c5 c6 c7 c8)
              | (go_at_call 127; refine (hlf _ hw2).mono ?_; rintro e w4 ⟨rfl, hb4⟩; have hw4 := below_next hw2 hb4; have hb24 := below_next hb2 hb4; have hB4 := hB.next hb4; clear hB; have hB := hB4; clear hB4; obtain ⟨c0, c1, c2, c3, c4, c5, c6, c7, c8, c9, c10, c11, c12⟩ := hB.is; simp only at c0 c1 c2 c3 c4 c5 c6 c7 c8))
            go_ret2
            rw [hspec.out]
            exact ⟨rfl, hw4⟩
        · have hspec : nodeF ⟨4, op, nn, vk, vn, vs, src, name, dist⟩ acc = (0, sfN ⟨4, op, nn, vk, vn, vs, src, name, dist⟩ l.length) := by unfold nodeF; rw [hfo, if_neg (by simpa using hf0)]
          replace hspec := Lib.hid (hfin.out.trans hspec)
          have hf1 : (sfN ⟨4, op, nn, vk, vn, vs, src, name, dist⟩ l.length != 0) = true := by simpa using hf0
          clear hfo hf0
          generalize sfN ⟨4, op, nn, vk, vn, vs, src, name, dist⟩ l.length = fm at *
          go_wp2_with (first | (go_at_call 126; refine hfm.mono ?_; rintro e w2 ⟨rfl, hb2⟩; have hB2 := hB.next hb2; have hw2 := below_next hwr hb2; have hI2 := hI.below hb2; clear hB; have hB := hB2; clear hB2; obtain ⟨c0, c1, c2, c3, c4, c5, c6, c7, c8, c9, c10, c11, c12⟩ := hB.is; simp only at c0 c1 c2 c3 c4 c5 c6 c7 c8))
          go_ret2
          rw [hspec.out]
          exact ⟨rfl, hw2⟩
      · have hfm := Tryz.sform ⟨5, op, nn, vk, vn, vs, src, name, dist⟩ ad l.length cap wr (by omega) hJr
        by_cases hf0 : sfN ⟨5, op, nn, vk, vn, vs, src, name, dist⟩ l.length = 0
        · rw [hf0] at hfm
          have hlf := fun (W : World) (h : Below w.heap.size w W) => Tryz.leafN cs ps cad pad cc pc N ⟨5, op, nn, vk, vn, vs, src, name, dist⟩ (.slice ad l.length cap) W (hcs.below (h.mono hN)) (hps.below (h.mono hN)) (Nat.le_trans hN h.size) hcl hpl hxok rfl (show (5 : Int) ≠ 3 by decide)
          by_cases hz : (leafF ⟨5, op, nn, vk, vn, vs, src, name, dist⟩).2 = 0
          · have hspec : nodeF ⟨5, op, nn, vk, vn, vs, src, name, dist⟩ acc = ((leafF ⟨5, op, nn, vk, vn, vs, src, name, dist⟩).1, 0) := by unfold nodeF; rw [hfo, if_pos (by simpa using hf0)]; exact Prod.ext rfl hz
            replace hspec := Lib.hid (hfin.out.trans hspec)
            rw [hz] at hlf
            generalize (leafF ⟨5, op, nn, vk, vn, vs, src, name, dist⟩).1 = z at *
            clear hfo hf0 hz
            go_wp2_with (first
              | (go_at_call 126; refine hfm.mono ?_; rintro e w2 ⟨rfl, hb2⟩; have hB2 := hB.next hb2; have hw2 := below_next hwr hb2; have hI2 := hI.below hb2; clear hB; have hB := hB2; clear hB2; obtain ⟨c0, c1, c2, c3, c4, c5, c6, c7, c8, c9, c10, c11, c12⟩ := hB.is; simp only at c0 c1 c2 c3 c4 c5 c6 c7 c8)
              | (go_at_call 127; refine (hlf _ hw2).mono ?_; rintro e w4 ⟨rfl, hb4⟩; have hw4 := below_next hw2 hb4; have hb24 := below_next hb2 hb4; have hB4 := hB.next hb4; clear hB; have hB := hB4; clear hB4; obtain ⟨c0, c1, c2, c3, c4, c5, c6, c7, c8, c9, c10, c11, c12⟩ := hB.is; simp only at c0 c1 c2 c3 c4 c5 c6 c7 c8))
            go_ret2
            rw [hspec.out]
            exact ⟨rfl, hw4⟩
          · have hspec : nodeF ⟨5, op, nn, vk, vn, vs, src, name, dist⟩ acc = ((leafF ⟨5, op, nn, vk, vn, vs, src, name, dist⟩).1, (leafF ⟨5, op, nn, vk, vn, vs, src, name, dist⟩).2) := by unfold nodeF; rw [hfo, if_pos (by simpa using hf0)]
            replace hspec := Lib.hid (hfin.out.trans hspec)
            generalize (leafF ⟨5, op, nn, vk, vn, vs, src, name, dist⟩).1 = z at *
            generalize (leafF ⟨5, op, nn, vk, vn, vs, src, name, dist⟩).2 = u at *
            have hz2 : (u != 0) = true := by simpa using hz
            clear hfo hf0 hz
            go_wp2_with (first
              | (go_at_call 126; refine hfm.mono ?_; rintro e w2 ⟨rfl, hb2⟩; have hB2 := hB.next hb2; have hw2 := below_next hwr hb2; have hI2 := hI.below hb2; clear hB; have hB := hB2; clear hB2; obtain ⟨c0, c1, c2, c3, c4, c5, c6, c7, c8, c9, c10, c11, c12⟩ := hB.is; simp only at c0 c1 c2 c3 c4 c5 c6 c7 c8)
              | (go_at_call 127; refine (hlf _ hw2).mono ?_; rintro e w4 ⟨rfl, hb4⟩; have hw4 := below_next hw2 hb4; have hb24 := below_next hb2 hb4; have hB4 := hB.next hb4; clear hB; have hB := hB4; clear hB4; obtain ⟨c0, c1, c2, c3, c4, c5, c6, c7, c8, c9, c10, c11, c12⟩ := hB.is; simp only at c0 c1 c2 c3 c4 c5 c6 c7 c8))
            go_ret2
            rw [hspec.out]
            exact ⟨rfl, hw4⟩
        · have hspec : nodeF ⟨5, op, nn, vk, vn, vs, src, name, dist⟩ acc = (0, sfN ⟨5, op, nn, vk, vn, vs, src, name, dist⟩ l.length) := by unfold nodeF; rw [hfo, if_neg (by simpa using hf0)]
          replace hspec := Lib.hid (hfin.out.trans hspec)
          have hf1 : (sfN ⟨5, op, nn, vk, vn, vs, src, name, dist⟩ l.length != 0) = true := by simpa using hf0
          clear hfo hf0
          generalize sfN ⟨5, op, nn, vk, vn, vs, src, name, dist⟩ l.length = fm at *
          go_wp2_with (first | (go_at_call 126; refine hfm.mono ?_; rintro e w2 ⟨rfl, hb2⟩; have hB2 := hB.next hb2; have hw2 := below_next hwr hb2; have hI2 := hI.below hb2; clear hB; have hB := hB2; clear hB2; obtain ⟨c0, c1, c2, c3, c4, c5, c6, c7, c8, c9, c10, c11, c12⟩ := hB.is; simp only at c0 c1 c2 c3 c4 c5 c6 c7 c8))
          go_ret2
          rw [hspec.out]
          exact ⟨rfl, hw2⟩
      · have hfm := Tryz.sform ⟨6, op, nn, vk, vn, vs, src, name, dist⟩ ad l.length cap wr (by omega) hJr
        by_cases hf0 : sfN ⟨6, op, nn, vk, vn, vs, src, name, dist⟩ l.length = 0
        · rw [hf0] at hfm
          have hlf := fun (W : World) (h : Below w.heap.size w W) => Tryz.leafN cs ps cad pad cc pc N ⟨6, op, nn, vk, vn, vs, src, name, dist⟩ (.slice ad l.length cap) W (hcs.below (h.mono hN)) (hps.below (h.mono hN)) (Nat.le_trans hN h.size) hcl hpl hxok rfl (show (6 : Int) ≠ 3 by decide)
          by_cases hz : (leafF ⟨6, op, nn, vk, vn, vs, src, name, dist⟩).2 = 0
          · have hspec : nodeF ⟨6, op, nn, vk, vn, vs, src, name, dist⟩ acc = ((leafF ⟨6, op, nn, vk, vn, vs, src, name, dist⟩).1, 0) := by unfold nodeF; rw [hfo, if_pos (by simpa using hf0)]; exact Prod.ext rfl hz
            replace hspec := Lib.hid (hfin.out.trans hspec)
            rw [hz] at hlf
            generalize (leafF ⟨6, op, nn, vk, vn, vs, src, name, dist⟩).1 = z at *
            clear hfo hf0 hz
            go_wp2_with (first
              | (go_at_call 126; refine hfm.mono ?_; rintro e w2 ⟨rfl, hb2⟩; have hB2 := hB.next hb2; have hw2 := below_next hwr hb2; have hI2 := hI.below hb2; clear hB; have hB := hB2; clear hB2; obtain ⟨c0, c1, c2, c3, c4, c5, c6, c7, c8, c9, c10, c11, c12⟩ := hB.is; simp only at c0 c1 c2 c3 c4 c5 c6 c7 c8)
              | (go_at_call 127; refine (hlf _ hw2).mono ?_; rintro e w4 ⟨rfl, hb4⟩; have hw4 := below_next hw2 hb4; have hb24 := below_next hb2 hb4; have hB4 := hB.next hb4; clear hB; have hB := hB4; clear hB4; obtain ⟨c0, c1, c2, c3, c4, c5, c6, c7, c8, c9, c10, c11, c12⟩ := hB.is; simp only at c0 c1 c2 c3 c4 c5 c6 c7 c8))
            go_ret2
            rw [hspec.out]
            exact ⟨rfl, hw4⟩
          · have hspec : nodeF ⟨6, op, nn, vk, vn, vs, src, name, dist⟩ acc = ((leafF ⟨6, op, nn, vk, vn, vs, src, name, dist⟩).1, (leafF ⟨6, op, nn, vk, vn, vs, src, name, dist⟩).2) := by unfold nodeF; rw [hfo, if_pos (by simpa using hf0)]
            replace hspec := Lib.hid (hfin.out.trans hspec)
            generalize (leafF ⟨6, op, nn, vk, vn, vs, src, name, dist⟩).1 = z at *
            generalize (leafF ⟨6, op, nn, vk, vn, vs, src, name, dist⟩).2 = u at *
            have hz2 : (u != 0) = true := by simpa using hz
            clear hfo hf0 hz
            go_wp2_with (first
              | (go_at_call 126; refine hfm.mono ?_; rintro e w2 ⟨rfl, hb2⟩; have hB2 := hB.next hb2; have hw2 := below_next hwr hb2; have hI2 := hI.below hb2; clear hB; have hB := hB2; clear hB2; obtain ⟨c0, c1, c2, c3, c4, c5, c6, c7, c8, c9, c10, c11, c12⟩ := hB.is; simp only at c0 c1 c2 c3 c4 c5 c6 c7 c8)
              | (go_at_call 127; refine (hlf _ hw2).mono ?_; rintro e w4 ⟨rfl, hb4⟩; have hw4 := below_next hw2 hb4; have hb24 := below_next hb2 hb4; have hB4 := hB.next hb4; clear hB; have hB := hB4; clear hB4; obtain ⟨c0, c1, c2, c3, c4, c5, c6, c7, c8, c9, c10, c11, c12⟩ := hB.is; simp only at c0 c1 c2 c3 c4 c5 c6 c7 c8))
            go_ret2
            rw [hspec.out]
            exact ⟨rfl, hw4⟩
        · have hspec : nodeF ⟨6, op, nn, vk, vn, vs, src, name, dist⟩ acc = (0, sfN ⟨6, op, nn, vk, vn, vs, src, name, dist⟩ l.length) := by unfold nodeF; rw [hfo, if_neg (by simpa using hf0)]
          replace hspec := Lib.hid (hfin.out.trans hspec)
          have hf1 : (sfN ⟨6, op, nn, vk, vn, vs, src, name, dist⟩ l.length != 0) = true := by simpa using hf0
          clear hfo hf0
          generalize sfN ⟨6, op, nn, vk, vn, vs, src, name, dist⟩ l.length = fm at *
          go_wp2_with (first | (go_at_call 126; refine hfm.mono ?_; rintro e w2 ⟨rfl, hb2⟩; have hB2 := hB.next hb2; have hw2 := below_next hwr hb2; have hI2 := hI.below hb2; clear hB; have hB := hB2; clear hB2; obtain ⟨c0, c1, c2, c3, c4, c5, c6, c7, c8, c9, c10, c11, c12⟩ := hB.is; simp only at c0 c1 c2 c3 c4 c5 c6 c7 c8))
          go_ret2
          rw [hspec.out]
          exact ⟨rfl, hw2⟩

theorem Tryz.scalf (cs : List Col) (ps : List Int) (cad pad : Option Addr) (cc pc N : Nat) (hcl : cs.length ≤ 1000000) (hpl : ps.length ≤ 1000000) (hpk : ∀ q ∈ ps, 0 ≤ q ∧ q ≤ 4) (hck : ∀ q ∈ cs, 0 ≤ q.kind ∧ q.kind ≤ 4) : ∀ d, ScalFC cs ps cad pad cc pc N d
  | 0 => fun _ _ _ _ h => h.elim
  | d + 1 => fun e ad cap w h hcs hps hN hJ hnc => by
    have ih := Tryz.scalf cs ps cad pad cc pc N hcl hpl hpk hck d
    obtain ⟨⟨k, op, nn, vk, vn, vs, src, name, dist⟩, l⟩ := e
    obtain ⟨hok, h2, h3, h4⟩ := h
    have hA : NodeArgs d w N ad cap l := ⟨h2, h3, h4⟩
    unfold noColT at hnc
    rw [Bool.and_eq_true] at hnc
    obtain ⟨hk3, hnc⟩ := hnc
    exact Tryz.scalfA k op nn vk vn vs src name dist (by simpa using hk3) l ad cap d N cs ps cad pad cc pc w ih hA hok hcs hps hN hcl hpl hpk hck hJ hnc
end Go.Proofs
