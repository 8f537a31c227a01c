/- Of the document's package: the kind of an expression. The condition: the library's table of white space. -/
import Derived.Test.YtkpligcifakmjaaGreatDoorKind
import Derived.Test.YtkpligcifakmjaaGreatDoorOpk
import Derived.Test.YtkpligcifakmjaaGreatDoorSForm
import Derived.Test.YtkpligcifakmjaaGreatDoorLeaf
namespace Go.Proofs
open Go.RowKit Go.Ke

def partR (cs : List Col) (ps : List Int) (x : Node) (ks : List Int) : Int × Int :=
  if (leafU cs ps x).2 == 0 then
    (if decide (x.k ≤ 3) then ((leafU cs ps x).1, 0)
     else if x.k == 4 then (if (opKR x.op x.n ks).2 then ((opKR x.op x.n ks).1, 0) else (0, 8))
     else if x.k == 6 then (if (fitsF 0 ks).2 then (1, 0) else (0, 8))
     else (if (caseR ks).2 then ((caseR ks).1, 0) else (0, 8)))
  else ((leafU cs ps x).1, (leafU cs ps x).2)

def nodeR (cs : List Col) (ps : List Int) (x : Node) (ks : List Int) : Int × Int :=
  if sfN x ks.length == 0 then partR cs ps x ks else (0, sfN x ks.length)

/-- What is claimed of trees of at most d levels. -/
def ScalC (cs : List Col) (ps : List Int) (cad pad : Option Addr) (cc pc N d : Nat) : Prop :=
  ∀ (e : Ex) (ad : Option Addr) (cap : Nat) (w : World), ExIs d w N ad cap e → ColsAt w N cad cs → IntsAt w N pad ps → N ≤ w.heap.size → spaceTab w.heap.size w →
    Calls Tryz.prog 86 #[e.v ad cap, .slice cad cs.length cc, .slice pad ps.length pc, .bool true] w fun r w' => r = .returned (.tuple #[.int .i64 (foldT (nodeR cs ps) e).1, .int .i64 (foldT (nodeR cs ps) e).2]) ∧ Below w.heap.size w w'

theorem sfN_in {x : Node} {n : Nat} (h : sfN x n = 0) : inB x.k 1 6 = true ∧ ((x.k == 4) = true → inB x.op 1 27 = true) ∧ sfOk x n = true := by
  unfold sfN at h
  split at h
  · omega
  · rename_i h1
    split at h
    · rename_i h2
      refine ⟨?_, fun h4 => ?_, h2⟩
      · cases hq : inB x.k 1 6 with
        | true => rfl
        | false => simp [hq] at h1
      · cases hq : inB x.op 1 27 with
        | true => rfl
        | false => rw [h4, hq] at h1; simp at h1
    · omega

theorem args_arity {op : Int} {n : Nat} (hop : inB op 1 27 = true) (hn : n ≤ 1000000000) : inB n (argsLo op) (argsHi op) = rightArgsB 4 op n := by
  have h27 : op = 1 ∨ op = 2 ∨ op = 3 ∨ op = 4 ∨ op = 5 ∨ op = 6 ∨ op = 7 ∨ op = 8 ∨ op = 9 ∨ op = 10 ∨ op = 11 ∨ op = 12 ∨ op = 13 ∨ op = 14 ∨ op = 15 ∨ op = 16 ∨ op = 17 ∨ op = 18 ∨ op = 19 ∨ op = 20 ∨ op = 21 ∨ op = 22 ∨ op = 23 ∨ op = 24 ∨ op = 25 ∨ op = 26 ∨ op = 27 := by unfold inB at hop; simp at hop; omega
  rcases h27 with rfl | rfl | rfl | rfl | rfl | rfl | rfl | rfl | rfl | rfl | rfl | rfl | rfl | rfl | rfl | rfl | rfl | rfl | rfl | rfl | rfl | rfl | rfl | rfl | rfl | rfl | rfl
  all_goals
    simp [argsLo, argsHi, rightArgsB, arityN, inB]
    try (first | (intro; omega) | (rw [Bool.eq_iff_iff]; simp; omega))

theorem sfN_four {op nn vk vn : Int} {vs src name : ByteArray} {dist : Bool} {n : Nat} (hn : n ≤ 1000000000) (h : sfN ⟨4, op, nn, vk, vn, vs, src, name, dist⟩ n = 0) : inB op 1 27 = true ∧ rightArgsB 4 op n = true := by
  obtain ⟨h1, h2, h3⟩ := sfN_in h
  have hop := h2 rfl
  refine ⟨hop, ?_⟩
  simp [sfOk] at h3
  rw [← args_arity hop hn]
  exact h3.2

theorem sfN_five {op nn vk vn : Int} {vs src name : ByteArray} {dist : Bool} {n : Nat} (h : sfN ⟨5, op, nn, vk, vn, vs, src, name, dist⟩ n = 0) : 3 ≤ n := by
  obtain ⟨h1, h2, h3⟩ := sfN_in h
  simp [sfOk] at h3
  omega

theorem fault_kind {vk vn : Int} {vs : ByteArray} (h : faultN 0 vk vn vs = 0) : 0 ≤ vk ∧ vk ≤ 4 := by
  have h1 := fine_fault vk vn vs
  rw [h] at h1
  simp [Val.fine, formB] at h1
  by_cases h0 : vk = 0
  · omega
  · by_cases h3 : vk = 3
    · omega
    · simp [h0, h3, inB] at h1; omega

theorem isR_range (l ks : List Int) (out : Int) (h : 0 ≤ out ∧ out ≤ 4) : kp (isR l ks out) := by
  unfold isR kp
  split
  · exact h
  · exact ⟨Int.le_refl 0, by show (0 : Int) ≤ 4; decide⟩

theorem sumR_range (op a b : Int) : kp (sumR op a b) := by
  unfold sumR
  refine kp_ite (fun _ => kp_lit _ _ (by decide)) ?_
  iterate 2 refine kp_ite (fun _ => kp_lit _ _ (by decide)) ?_
  unfold kp
  split <;> decide

theorem kp_ite2 {c : Prop} [Decidable c] {a b : Int × Bool} (h1 : c → kp a) (h2 : ¬ c → kp b) : kp (if c then a else b) := by
  split
  · exact h1 ‹c›
  · exact h2 ‹¬ c›

theorem opKR_range {op n : Int} {l : List Int} (hop : inB op 1 27 = true) (hl : ∀ q ∈ l, 0 ≤ q ∧ q ≤ 4) (hn : op = 27 → 0 ≤ n ∧ n ≤ 4) : 0 ≤ (opKR op n l).1 ∧ (opKR op n l).1 ≤ 4 := by
  show kp (opKR op n l)
  unfold opKR
  iterate 2 refine kp_ite (fun _ => isR_range _ _ _ (by decide)) ?_
  iterate 2 refine kp_ite (fun _ => kp_lit _ _ (by decide)) ?_
  refine kp_ite2 (fun _ => sumR_range _ _ _) fun g0 => ?_
  refine kp_ite2 (fun _ => isR_range _ _ _ (by decide)) fun g1 => ?_
  refine kp_ite2 (fun _ => isR_range _ _ _ (by decide)) fun g2 => ?_
  refine kp_ite2 (fun _ => isR_range _ _ _ (by decide)) fun g3 => ?_
  refine kp_ite2 (fun _ => isR_range _ _ _ (by decide)) fun g4 => ?_
  refine kp_ite2 (fun _ => isR_range _ _ _ (by decide)) fun g5 => ?_
  refine kp_ite2 (fun _ => isR_range _ _ _ (by decide)) fun g6 => ?_
  refine kp_ite2 (fun _ => fitsF_range l 0 (by decide) (by decide) hl) fun g7 => ?_
  refine kp_ite2 (fun _ => isR_range _ _ _ (by decide)) fun g8 => ?_
  refine kp_ite2 (fun _ => isR_range _ _ _ (by decide)) fun g9 => ?_
  refine kp_lit _ _ (hn ?_)
  simp [inB] at *
  omega

theorem leafU_range {cs : List Col} {ps : List Int} (hpk : ∀ q ∈ ps, 0 ≤ q ∧ q ≤ 4) (hck : ∀ q ∈ cs, 0 ≤ q.kind ∧ q.kind ≤ 4) (x : Node) : 0 ≤ (leafU cs ps x).1 ∧ (leafU cs ps x).1 ≤ 4 := by
  unfold leafU
  by_cases h1 : (x.k == 1) = true
  · rw [if_pos h1]
    by_cases hf : (faultN 0 x.vk x.vn x.vs == 0) = true
    · rw [if_pos hf]; exact fault_kind (by simpa using hf)
    · rw [if_neg hf]; exact ⟨Int.le_refl 0, by show (0 : Int) ≤ 4; decide⟩
  · rw [if_neg h1]
    by_cases h2 : (x.k == 2) = true
    · rw [if_pos h2]
      split
      · exact getD_kind hpk _
      · exact ⟨Int.le_refl 0, by show (0 : Int) ≤ 4; decide⟩
    · rw [if_neg h2]
      by_cases h3 : (x.k == 3) = true
      · rw [if_pos h3]
        split
        · exact getD_kind (by simpa using hck) _
        · exact ⟨Int.le_refl 0, by show (0 : Int) ≤ 4; decide⟩
      · rw [if_neg h3]
        split
        · split <;> exact ⟨Int.le_refl 0, by show (0 : Int) ≤ 4; decide⟩
        · exact ⟨Int.le_refl 0, by show (0 : Int) ≤ 4; decide⟩

theorem nodeR_range {cs : List Col} {ps : List Int} (hpk : ∀ q ∈ ps, 0 ≤ q ∧ q ≤ 4) (hck : ∀ q ∈ cs, 0 ≤ q.kind ∧ q.kind ≤ 4) (x : Node) (ks : List Int) (hk : ∀ q ∈ ks, 0 ≤ q ∧ q ≤ 4) (h : (nodeR cs ps x ks).2 = 0) : 0 ≤ (nodeR cs ps x ks).1 ∧ (nodeR cs ps x ks).1 ≤ 4 := by
  unfold nodeR at h ⊢
  split at h
  · rename_i hf
    rw [if_pos hf]
    obtain ⟨hin, hop, _⟩ := sfN_in (by simpa using hf)
    unfold partR at h ⊢
    by_cases hz : ((leafU cs ps x).2 == 0) = true
    · rw [if_pos hz] at h ⊢
      by_cases h3 : decide (x.k ≤ 3) = true
      · rw [if_pos h3]; exact leafU_range hpk hck x
      · rw [if_neg h3] at h ⊢
        by_cases h4 : (x.k == 4) = true
        · rw [if_pos h4] at h ⊢
          split
          · refine opKR_range (hop h4) hk fun h27 => ?_
            have h4' : x.k = 4 := by simpa using h4
            simp [leafU, h4', h27] at hz
            cases hb : inB x.n 1 4 with
            | true => simp [inB] at hb; omega
            | false => rw [hb] at hz; simp at hz
          · exact ⟨Int.le_refl 0, by show (0 : Int) ≤ 4; decide⟩
        · rw [if_neg h4] at h ⊢
          by_cases h6 : (x.k == 6) = true
          · rw [if_pos h6]; split <;> exact ⟨by decide, by decide⟩
          · rw [if_neg h6] at h ⊢
            split
            · exact casesG_range (fun l hl => fitsF_range l 0 (by decide) (by decide) hl) ks.length ks _ (Nat.le_refl _) (by intro q hq; simp at hq; subst hq; have := getD_kind hk (ks.length - 1); rw [List.getD_eq_getElem?_getD] at this; exact this) hk
            · exact ⟨Int.le_refl 0, by show (0 : Int) ≤ 4; decide⟩
    · rw [if_neg hz] at h
      exact absurd h (by simpa using hz)
  · rename_i hf
    rw [if_neg hf]
    exact ⟨Int.le_refl 0, by show (0 : Int) ≤ 4; decide⟩

set_option maxRecDepth 20000 in
set_option maxHeartbeats 2000000 in
theorem Tryz.scalA (k : Int) (op nn vk vn : Int) (vs src name : ByteArray) (dist : Bool) (l : List Ex) (ad : Option Addr) (cap d N : Nat) (cs : List Col) (ps : List Int) (cad pad : Option Addr) (cc pc : Nat) (w : World) (ih : ScalC cs ps cad pad cc pc N d)
    (hA : NodeArgs d w N ad cap l) (hxok : Node.ok ⟨k, op, nn, vk, vn, vs, src, name, dist⟩) (hcs : ColsAt w N cad cs) (hps : IntsAt w N pad ps) (hN : N ≤ w.heap.size) (hcl : cs.length ≤ 1000000) (hpl : ps.length ≤ 1000000) (hpk : ∀ q ∈ ps, 0 ≤ q ∧ q ≤ 4) (hck : ∀ q ∈ cs, 0 ≤ q.kind ∧ q.kind ≤ 4) (hJ : spaceTab w.heap.size w) :
    Calls Tryz.prog 86 #[Node.v ⟨k, op, nn, vk, vn, vs, src, name, dist⟩ (.slice ad l.length cap), .slice cad cs.length cc, .slice pad ps.length pc, .bool true] w fun r w' => r = .returned (.tuple #[.int .i64 (foldT (nodeR cs ps) (.mk ⟨k, op, nn, vk, vn, vs, src, name, dist⟩ l)).1, .int .i64 (foldT (nodeR cs ps) (.mk ⟨k, op, nn, vk, vn, vs, src, name, dist⟩ l)).2]) ∧ Below w.heap.size w w' := by
  obtain ⟨i3, hi3, hz3, hs3, hb3⟩ := info_parts Tryz.info3'
  obtain ⟨hlen, hcap, hargs⟩ := hA
  have hrange := fold_kinds (nodeR_range hpk hck)
  have hw0 : Below w.heap.size w (w.alloc (.cells (Node.cells ⟨k, op, nn, vk, vn, vs, src, name, dist⟩ (.slice ad l.length cap)) 57)) := (Below.refl _ _).alloc (Nat.le_refl _) _
  have hB0 : Box (w.alloc (.cells (Node.cells ⟨k, op, nn, vk, vn, vs, src, name, dist⟩ (.slice ad l.length cap)) 57)) w.heap.size ⟨k, op, nn, vk, vn, vs, src, name, dist⟩ (.slice ad l.length cap) := Box.new _ _ _
  have hs0 := ex_alloc_size w (.cells (Node.cells ⟨k, op, nn, vk, vn, vs, src, name, dist⟩ (.slice ad l.length cap)) 57)
  unfold Node.v
  go_enter Tryz.func86, Tryz.ntmps86
  go_upto_region 1 with fail
  generalize (w.alloc (.cells (Node.cells ⟨k, op, nn, vk, vn, vs, src, name, dist⟩ (.slice ad l.length cap)) 57)) = W1 at hB0 hw0 hs0 ⊢
  replace hs0 : w.heap.size < W1.heap.size := by omega
  have c9 := hB0.is.c9
  go_wp2_with fail
  clear c9
  go_loopw [10, 22] (fun v i wr => ∃ (i0 : Nat) (acc : List Int), i = .int .i64 i0 ∧ acc.length = i0 ∧ i0 ≤ l.length ∧ (∀ q ∈ acc, 0 ≤ q ∧ q ≤ 4) ∧ Own w.heap.size 3 1 v acc.length (intCells acc) w wr ∧ Box wr w.heap.size ⟨k, op, nn, vk, vn, vs, src, name, dist⟩ (.slice ad l.length cap) ∧ w.heap.size < wr.heap.size ∧ Hid (behindK acc (foldL (nodeR cs ps) (l.drop i0)) = foldL (nodeR cs ps) l)) (fun _ i _ => l.length - (intOf i).toNat)
  case atStart => exact ⟨0, [], rfl, rfl, Nat.zero_le _, by simp, ⟨World.ownsRow_nil _ _ _ _, hw0, by omega⟩, hB0, by omega, Lib.hid (behindK_nil _ _)⟩
  case round =>
    obtain ⟨i0, acc, rfl, hacc, hk, hra, hO, hB, hsz, hsp⟩ := hrel
    clear hB0 hw0 hs0
    have hwr := hO.2.1
    have hszr := hO.2.2
    by_cases hlt : i0 < l.length
    · obtain ⟨pa, po, bd, bc, rfl, hpa, hca, hex⟩ := hargs i0 hlt
      have hcr := hca.of (hwr.block pa (by omega))
      obtain ⟨d0, d1, d2, d3, d4, d5, d6, d7, d8, d9, d10, d11, d12⟩ := hcr
      have hwA : Below wr.heap.size wr (wr.alloc (.cells (l[i0].node.cells (.slice bd l[i0].args.length bc)) 57)) := (Below.refl _ _).alloc (Nat.le_refl _) _
      have hwB := below_next hwr hwA
      have hJA : spaceTab (wr.alloc (.cells (l[i0].node.cells (.slice bd l[i0].args.length bc)) 57)).heap.size (wr.alloc (.cells (l[i0].node.cells (.slice bd l[i0].args.length bc)) 57)) := Lib.tabBelow_of_tabIs (hJ.on hwB).here
      have hi := ih l[i0] bd bc (wr.alloc (.cells (l[i0].node.cells (.slice bd l[i0].args.length bc)) 57)) (hex.below (hwB.mono hN)) (hcs.below (hwB.mono hN)) (hps.below (hwB.mono hN)) (Nat.le_trans hN hwB.size) hJA
      have hrk := hrange l[i0]
      have hdr : l.drop i0 = l[i0] :: l.drop (i0 + 1) := List.drop_eq_getElem_cons hlt
      have hst := hsp.out
      rw [hdr] at hst
      have hgood := behindK_good (f := (nodeR cs ps)) (a := l[i0]) (l := l.drop (i0 + 1)) acc
      have hbad := behindK_bad (f := (nodeR cs ps)) (a := l[i0]) (l := l.drop (i0 + 1)) acc
      clear hca hex hdr hsp
      by_cases hz : (foldT (nodeR cs ps) l[i0]).2 = 0
      · replace hst := (hgood hz).symm.trans hst
        have hrk := hrk hz
        rw [hz] at hi
        clear hgood hbad hz
        generalize (foldT (nodeR cs ps) l[i0]).1 = z at *
        replace hst := Lib.hid hst
        go_wp2_with (first
          | (go_at_call 86; refine hi.mono ?_; rintro r w2 ⟨rfl, hb2⟩; have hwk := below_next hwA hb2; have hO1 := hO.call hwk; have hB1 := hB.next hwk; have hsz1 := hwk.size)
          | (at_builtin; refine append_int ?_ (.tmp 37) (.tmp 39) 28 ?_ w.heap.size 3 i3 Tryz.underlying28 hi3 hz3 hs3 hb3 _ _ _ w _ hO1 z (by omega) ?_ ?_ ?_; rfl; rfl; rfl; exact ⟨_, rfl, rfl⟩; intro v3 w3 hO3 hbx))
        go_roundw
        case rel => exact ⟨i0 + 1, acc ++ [z], by go_num, by simp [hacc], by omega, kinds_snoc hra hrk, hO3.snoc, (hbx 57 (by decide)).2 _ _ _ hB1, Nat.lt_of_lt_of_le (by omega) (hbx 57 (by decide)).1, hst⟩
        case measure => simp [intOf]; omega
      · replace hst := (hbad hz).symm.trans hst
        have hfin : foldT (nodeR cs ps) (.mk ⟨k, op, nn, vk, vn, vs, src, name, dist⟩ l) = (0, (foldT (nodeR cs ps) l[i0]).2) := by
          show (if (foldL (nodeR cs ps) l).2 = 0 then _ else (0, (foldL (nodeR cs ps) l).2)) = _
          rw [← hst, if_neg hz]
        clear hgood hbad hst hrk
        generalize (foldT (nodeR cs ps) l[i0]).1 = z at hi
        generalize (foldT (nodeR cs ps) l[i0]).2 = u at *
        have hz2 : (u != 0) = true := by simpa using hz
        replace hfin := Lib.hid hfin
        clear hz
        go_wp2_with (first
          | (go_at_call 86; refine hi.mono ?_; rintro r w2 ⟨rfl, hb2⟩))
        go_ret2
        rw [hfin.out]
        exact ⟨rfl, below_next hwB hb2⟩
    · have hst := hsp.out
      rw [List.drop_of_length_le (by omega), behindK_end] at hst
      have hlen2 : acc.length = l.length := by omega
      have hfin : foldT (nodeR cs ps) (.mk ⟨k, op, nn, vk, vn, vs, src, name, dist⟩ l) = (nodeR cs ps) ⟨k, op, nn, vk, vn, vs, src, name, dist⟩ acc := by
        show (if (foldL (nodeR cs ps) l).2 = 0 then (nodeR cs ps) ⟨k, op, nn, vk, vn, vs, src, name, dist⟩ (foldL (nodeR cs ps) l).1 else (0, (foldL (nodeR cs ps) l).2)) = _
        rw [← hst]; rfl
      replace hfin := Lib.hid hfin
      obtain ⟨ad', cap', rfl, hI, hcap'⟩ := hO.ints2 (kinds_range hra)
      have hJr : spaceTab wr.heap.size wr := Lib.tabBelow_of_tabIs (hJ.on hwr).here
      rw [hlen2] at hcap' ⊢
      have hfo : sfN ⟨k, op, nn, vk, vn, vs, src, name, dist⟩ acc.length = sfN ⟨k, op, nn, vk, vn, vs, src, name, dist⟩ l.length := by rw [hlen2]
      obtain ⟨c0, c1, c2, c3, c4, c5, c6, c7, c8, c9, c10, c11, c12⟩ := hB.is
      simp only at c0 c1 c2 c3 c4 c5 c6 c7 c8
      clear hst hsp hargs ih hrange
      rcases kk_cases k with hin | rfl | rfl | rfl | rfl | rfl | rfl
      · have hfm := Tryz.sform ⟨k, op, nn, vk, vn, vs, src, name, dist⟩ ad l.length cap wr (by omega) hJr
        have hf0 : ¬ sfN ⟨k, op, nn, vk, vn, vs, src, name, dist⟩ l.length = 0 := by unfold sfN; simp [hin]
        have hspec : nodeR cs ps ⟨k, op, nn, vk, vn, vs, src, name, dist⟩ acc = (0, sfN ⟨k, op, nn, vk, vn, vs, src, name, dist⟩ l.length) := by unfold nodeR; rw [hfo, if_neg (by simpa using hf0)]
        replace hspec := Lib.hid (hfin.out.trans hspec)
        have hf1 : (sfN ⟨k, op, nn, vk, vn, vs, src, name, dist⟩ l.length != 0) = true := by simpa using hf0
        clear hfo hf0
        generalize sfN ⟨k, op, nn, vk, vn, vs, src, name, dist⟩ l.length = fm at *
        go_wp2_with (first | (go_at_call 126; refine hfm.mono ?_; rintro e w2 ⟨rfl, hb2⟩; have hB2 := hB.next hb2; have hw2 := below_next hwr hb2; have hI2 := hI.below hb2; clear hB; have hB := hB2; clear hB2; obtain ⟨c0, c1, c2, c3, c4, c5, c6, c7, c8, c9, c10, c11, c12⟩ := hB.is; simp only at c0 c1 c2 c3 c4 c5 c6 c7 c8))
        go_ret2
        rw [hspec.out]
        exact ⟨rfl, hw2⟩
      · have hfm := Tryz.sform ⟨1, op, nn, vk, vn, vs, src, name, dist⟩ ad l.length cap wr (by omega) hJr
        by_cases hf0 : sfN ⟨1, op, nn, vk, vn, vs, src, name, dist⟩ l.length = 0
        · rw [hf0] at hfm
          have hlf := fun (W : World) (h : Below w.heap.size w W) => Tryz.leafT cs ps cad pad cc pc N ⟨1, op, nn, vk, vn, vs, src, name, dist⟩ (.slice ad l.length cap) W (hcs.below (h.mono hN)) (hps.below (h.mono hN)) (Nat.le_trans hN h.size) hcl hpl hxok rfl
          by_cases hz : (leafU cs ps ⟨1, op, nn, vk, vn, vs, src, name, dist⟩).2 = 0
          · have hspec : nodeR cs ps ⟨1, op, nn, vk, vn, vs, src, name, dist⟩ acc = ((leafU cs ps ⟨1, op, nn, vk, vn, vs, src, name, dist⟩).1, 0) := by unfold nodeR; rw [hfo, if_pos (by simpa using hf0)]; unfold partR; rw [if_pos (by simpa using hz)]; simp
            replace hspec := Lib.hid (hfin.out.trans hspec)
            rw [hz] at hlf
            generalize (leafU cs ps ⟨1, op, nn, vk, vn, vs, src, name, dist⟩).1 = z at *
            clear hfo hf0 hz
            go_wp2_with (first
              | (go_at_call 126; refine hfm.mono ?_; rintro e w2 ⟨rfl, hb2⟩; have hB2 := hB.next hb2; have hw2 := below_next hwr hb2; have hI2 := hI.below hb2; clear hB; have hB := hB2; clear hB2; obtain ⟨c0, c1, c2, c3, c4, c5, c6, c7, c8, c9, c10, c11, c12⟩ := hB.is; simp only at c0 c1 c2 c3 c4 c5 c6 c7 c8)
              | (go_at_call 127; refine (hlf _ hw2).mono ?_; rintro e w4 ⟨rfl, hb4⟩; have hw4 := below_next hw2 hb4; have hb24 := below_next hb2 hb4; have hB4 := hB.next hb4; clear hB; have hB := hB4; clear hB4; obtain ⟨c0, c1, c2, c3, c4, c5, c6, c7, c8, c9, c10, c11, c12⟩ := hB.is; simp only at c0 c1 c2 c3 c4 c5 c6 c7 c8))
            go_ret2
            rw [hspec.out]
            exact ⟨rfl, hw4⟩
          · have hspec : nodeR cs ps ⟨1, op, nn, vk, vn, vs, src, name, dist⟩ acc = ((leafU cs ps ⟨1, op, nn, vk, vn, vs, src, name, dist⟩).1, (leafU cs ps ⟨1, op, nn, vk, vn, vs, src, name, dist⟩).2) := by unfold nodeR; rw [hfo, if_pos (by simpa using hf0)]; unfold partR; rw [if_neg (by simpa using hz)]
            replace hspec := Lib.hid (hfin.out.trans hspec)
            generalize (leafU cs ps ⟨1, op, nn, vk, vn, vs, src, name, dist⟩).1 = z at *
            generalize (leafU cs ps ⟨1, op, nn, vk, vn, vs, src, name, dist⟩).2 = u at *
            have hz2 : (u != 0) = true := by simpa using hz
            clear hfo hf0 hz
            go_wp2_with (first
              | (go_at_call 126; refine hfm.mono ?_; rintro e w2 ⟨rfl, hb2⟩; have hB2 := hB.next hb2; have hw2 := below_next hwr hb2; have hI2 := hI.below hb2; clear hB; have hB := hB2; clear hB2; obtain ⟨c0, c1, c2, c3, c4, c5, c6, c7, c8, c9, c10, c11, c12⟩ := hB.is; simp only at c0 c1 c2 c3 c4 c5 c6 c7 c8)
              | (go_at_call 127; refine (hlf _ hw2).mono ?_; rintro e w4 ⟨rfl, hb4⟩; have hw4 := below_next hw2 hb4; have hb24 := below_next hb2 hb4; have hB4 := hB.next hb4; clear hB; have hB := hB4; clear hB4; obtain ⟨c0, c1, c2, c3, c4, c5, c6, c7, c8, c9, c10, c11, c12⟩ := hB.is; simp only at c0 c1 c2 c3 c4 c5 c6 c7 c8))
            go_ret2
            rw [hspec.out]
            exact ⟨rfl, hw4⟩
        · have hspec : nodeR cs ps ⟨1, op, nn, vk, vn, vs, src, name, dist⟩ acc = (0, sfN ⟨1, op, nn, vk, vn, vs, src, name, dist⟩ l.length) := by unfold nodeR; rw [hfo, if_neg (by simpa using hf0)]
          replace hspec := Lib.hid (hfin.out.trans hspec)
          have hf1 : (sfN ⟨1, op, nn, vk, vn, vs, src, name, dist⟩ l.length != 0) = true := by simpa using hf0
          clear hfo hf0
          generalize sfN ⟨1, op, nn, vk, vn, vs, src, name, dist⟩ l.length = fm at *
          go_wp2_with (first | (go_at_call 126; refine hfm.mono ?_; rintro e w2 ⟨rfl, hb2⟩; have hB2 := hB.next hb2; have hw2 := below_next hwr hb2; have hI2 := hI.below hb2; clear hB; have hB := hB2; clear hB2; obtain ⟨c0, c1, c2, c3, c4, c5, c6, c7, c8, c9, c10, c11, c12⟩ := hB.is; simp only at c0 c1 c2 c3 c4 c5 c6 c7 c8))
          go_ret2
          rw [hspec.out]
          exact ⟨rfl, hw2⟩
      · have hfm := Tryz.sform ⟨2, op, nn, vk, vn, vs, src, name, dist⟩ ad l.length cap wr (by omega) hJr
        by_cases hf0 : sfN ⟨2, op, nn, vk, vn, vs, src, name, dist⟩ l.length = 0
        · rw [hf0] at hfm
          have hlf := fun (W : World) (h : Below w.heap.size w W) => Tryz.leafT cs ps cad pad cc pc N ⟨2, op, nn, vk, vn, vs, src, name, dist⟩ (.slice ad l.length cap) W (hcs.below (h.mono hN)) (hps.below (h.mono hN)) (Nat.le_trans hN h.size) hcl hpl hxok rfl
          by_cases hz : (leafU cs ps ⟨2, op, nn, vk, vn, vs, src, name, dist⟩).2 = 0
          · have hspec : nodeR cs ps ⟨2, op, nn, vk, vn, vs, src, name, dist⟩ acc = ((leafU cs ps ⟨2, op, nn, vk, vn, vs, src, name, dist⟩).1, 0) := by unfold nodeR; rw [hfo, if_pos (by simpa using hf0)]; unfold partR; rw [if_pos (by simpa using hz)]; simp
            replace hspec := Lib.hid (hfin.out.trans hspec)
            rw [hz] at hlf
            generalize (leafU cs ps ⟨2, op, nn, vk, vn, vs, src, name, dist⟩).1 = z at *
            clear hfo hf0 hz
            go_wp2_with (first
              | (go_at_call 126; refine hfm.mono ?_; rintro e w2 ⟨rfl, hb2⟩; have hB2 := hB.next hb2; have hw2 := below_next hwr hb2; have hI2 := hI.below hb2; clear hB; have hB := hB2; clear hB2; obtain ⟨c0, c1, c2, c3, c4, c5, c6, c7, c8, c9, c10, c11, c12⟩ := hB.is; simp only at c0 c1 c2 c3 c4 c5 c6 c7 c8)
              | (go_at_call 127; refine (hlf _ hw2).mono ?_; rintro e w4 ⟨rfl, hb4⟩; have hw4 := below_next hw2 hb4; have hb24 := below_next hb2 hb4; have hB4 := hB.next hb4; clear hB; have hB := hB4; clear hB4; obtain ⟨c0, c1, c2, c3, c4, c5, c6, c7, c8, c9, c10, c11, c12⟩ := hB.is; simp only at c0 c1 c2 c3 c4 c5 c6 c7 c8))
            go_ret2
            rw [hspec.out]
            exact ⟨rfl, hw4⟩
          · have hspec : nodeR cs ps ⟨2, op, nn, vk, vn, vs, src, name, dist⟩ acc = ((leafU cs ps ⟨2, op, nn, vk, vn, vs, src, name, dist⟩).1, (leafU cs ps ⟨2, op, nn, vk, vn, vs, src, name, dist⟩).2) := by unfold nodeR; rw [hfo, if_pos (by simpa using hf0)]; unfold partR; rw [if_neg (by simpa using hz)]
            replace hspec := Lib.hid (hfin.out.trans hspec)
            generalize (leafU cs ps ⟨2, op, nn, vk, vn, vs, src, name, dist⟩).1 = z at *
            generalize (leafU cs ps ⟨2, op, nn, vk, vn, vs, src, name, dist⟩).2 = u at *
            have hz2 : (u != 0) = true := by simpa using hz
            clear hfo hf0 hz
            go_wp2_with (first
              | (go_at_call 126; refine hfm.mono ?_; rintro e w2 ⟨rfl, hb2⟩; have hB2 := hB.next hb2; have hw2 := below_next hwr hb2; have hI2 := hI.below hb2; clear hB; have hB := hB2; clear hB2; obtain ⟨c0, c1, c2, c3, c4, c5, c6, c7, c8, c9, c10, c11, c12⟩ := hB.is; simp only at c0 c1 c2 c3 c4 c5 c6 c7 c8)
              | (go_at_call 127; refine (hlf _ hw2).mono ?_; rintro e w4 ⟨rfl, hb4⟩; have hw4 := below_next hw2 hb4; have hb24 := below_next hb2 hb4; have hB4 := hB.next hb4; clear hB; have hB := hB4; clear hB4; obtain ⟨c0, c1, c2, c3, c4, c5, c6, c7, c8, c9, c10, c11, c12⟩ := hB.is; simp only at c0 c1 c2 c3 c4 c5 c6 c7 c8))
            go_ret2
            rw [hspec.out]
            exact ⟨rfl, hw4⟩
        · have hspec : nodeR cs ps ⟨2, op, nn, vk, vn, vs, src, name, dist⟩ acc = (0, sfN ⟨2, op, nn, vk, vn, vs, src, name, dist⟩ l.length) := by unfold nodeR; rw [hfo, if_neg (by simpa using hf0)]
          replace hspec := Lib.hid (hfin.out.trans hspec)
          have hf1 : (sfN ⟨2, op, nn, vk, vn, vs, src, name, dist⟩ l.length != 0) = true := by simpa using hf0
          clear hfo hf0
          generalize sfN ⟨2, op, nn, vk, vn, vs, src, name, dist⟩ l.length = fm at *
          go_wp2_with (first | (go_at_call 126; refine hfm.mono ?_; rintro e w2 ⟨rfl, hb2⟩; have hB2 := hB.next hb2; have hw2 := below_next hwr hb2; have hI2 := hI.below hb2; clear hB; have hB := hB2; clear hB2; obtain ⟨c0, c1, c2, c3, c4, c5, c6, c7, c8, c9, c10, c11, c12⟩ := hB.is; simp only at c0 c1 c2 c3 c4 c5 c6 c7 c8))
          go_ret2
          rw [hspec.out]
          exact ⟨rfl, hw2⟩
      · have hfm := Tryz.sform ⟨3, op, nn, vk, vn, vs, src, name, dist⟩ ad l.length cap wr (by omega) hJr
        by_cases hf0 : sfN ⟨3, op, nn, vk, vn, vs, src, name, dist⟩ l.length = 0
        · rw [hf0] at hfm
          have hlf := fun (W : World) (h : Below w.heap.size w W) => Tryz.leafT cs ps cad pad cc pc N ⟨3, op, nn, vk, vn, vs, src, name, dist⟩ (.slice ad l.length cap) W (hcs.below (h.mono hN)) (hps.below (h.mono hN)) (Nat.le_trans hN h.size) hcl hpl hxok rfl
          by_cases hz : (leafU cs ps ⟨3, op, nn, vk, vn, vs, src, name, dist⟩).2 = 0
          · have hspec : nodeR cs ps ⟨3, op, nn, vk, vn, vs, src, name, dist⟩ acc = ((leafU cs ps ⟨3, op, nn, vk, vn, vs, src, name, dist⟩).1, 0) := by unfold nodeR; rw [hfo, if_pos (by simpa using hf0)]; unfold partR; rw [if_pos (by simpa using hz)]; simp
            replace hspec := Lib.hid (hfin.out.trans hspec)
            rw [hz] at hlf
            generalize (leafU cs ps ⟨3, op, nn, vk, vn, vs, src, name, dist⟩).1 = z at *
            clear hfo hf0 hz
            go_wp2_with (first
              | (go_at_call 126; refine hfm.mono ?_; rintro e w2 ⟨rfl, hb2⟩; have hB2 := hB.next hb2; have hw2 := below_next hwr hb2; have hI2 := hI.below hb2; clear hB; have hB := hB2; clear hB2; obtain ⟨c0, c1, c2, c3, c4, c5, c6, c7, c8, c9, c10, c11, c12⟩ := hB.is; simp only at c0 c1 c2 c3 c4 c5 c6 c7 c8)
              | (go_at_call 127; refine (hlf _ hw2).mono ?_; rintro e w4 ⟨rfl, hb4⟩; have hw4 := below_next hw2 hb4; have hb24 := below_next hb2 hb4; have hB4 := hB.next hb4; clear hB; have hB := hB4; clear hB4; obtain ⟨c0, c1, c2, c3, c4, c5, c6, c7, c8, c9, c10, c11, c12⟩ := hB.is; simp only at c0 c1 c2 c3 c4 c5 c6 c7 c8))
            go_ret2
            rw [hspec.out]
            exact ⟨rfl, hw4⟩
          · have hspec : nodeR cs ps ⟨3, op, nn, vk, vn, vs, src, name, dist⟩ acc = ((leafU cs ps ⟨3, op, nn, vk, vn, vs, src, name, dist⟩).1, (leafU cs ps ⟨3, op, nn, vk, vn, vs, src, name, dist⟩).2) := by unfold nodeR; rw [hfo, if_pos (by simpa using hf0)]; unfold partR; rw [if_neg (by simpa using hz)]
            replace hspec := Lib.hid (hfin.out.trans hspec)
            generalize (leafU cs ps ⟨3, op, nn, vk, vn, vs, src, name, dist⟩).1 = z at *
            generalize (leafU cs ps ⟨3, op, nn, vk, vn, vs, src, name, dist⟩).2 = u at *
            have hz2 : (u != 0) = true := by simpa using hz
            clear hfo hf0 hz
            go_wp2_with (first
              | (go_at_call 126; refine hfm.mono ?_; rintro e w2 ⟨rfl, hb2⟩; have hB2 := hB.next hb2; have hw2 := below_next hwr hb2; have hI2 := hI.below hb2; clear hB; have hB := hB2; clear hB2; obtain ⟨c0, c1, c2, c3, c4, c5, c6, c7, c8, c9, c10, c11, c12⟩ := hB.is; simp only at c0 c1 c2 c3 c4 c5 c6 c7 c8)
              | (go_at_call 127; refine (hlf _ hw2).mono ?_; rintro e w4 ⟨rfl, hb4⟩; have hw4 := below_next hw2 hb4; have hb24 := below_next hb2 hb4; have hB4 := hB.next hb4; clear hB; have hB := hB4; clear hB4; obtain ⟨c0, c1, c2, c3, c4, c5, c6, c7, c8, c9, c10, c11, c12⟩ := hB.is; simp only at c0 c1 c2 c3 c4 c5 c6 c7 c8))
            go_ret2
            rw [hspec.out]
            exact ⟨rfl, hw4⟩
        · have hspec : nodeR cs ps ⟨3, op, nn, vk, vn, vs, src, name, dist⟩ acc = (0, sfN ⟨3, op, nn, vk, vn, vs, src, name, dist⟩ l.length) := by unfold nodeR; rw [hfo, if_neg (by simpa using hf0)]
          replace hspec := Lib.hid (hfin.out.trans hspec)
          have hf1 : (sfN ⟨3, op, nn, vk, vn, vs, src, name, dist⟩ l.length != 0) = true := by simpa using hf0
          clear hfo hf0
          generalize sfN ⟨3, op, nn, vk, vn, vs, src, name, dist⟩ l.length = fm at *
          go_wp2_with (first | (go_at_call 126; refine hfm.mono ?_; rintro e w2 ⟨rfl, hb2⟩; have hB2 := hB.next hb2; have hw2 := below_next hwr hb2; have hI2 := hI.below hb2; clear hB; have hB := hB2; clear hB2; obtain ⟨c0, c1, c2, c3, c4, c5, c6, c7, c8, c9, c10, c11, c12⟩ := hB.is; simp only at c0 c1 c2 c3 c4 c5 c6 c7 c8))
          go_ret2
          rw [hspec.out]
          exact ⟨rfl, hw2⟩
      · have hfm := Tryz.sform ⟨4, op, nn, vk, vn, vs, src, name, dist⟩ ad l.length cap wr (by omega) hJr
        by_cases hf0 : sfN ⟨4, op, nn, vk, vn, vs, src, name, dist⟩ l.length = 0
        · rw [hf0] at hfm
          have hlf := fun (W : World) (h : Below w.heap.size w W) => Tryz.leafT cs ps cad pad cc pc N ⟨4, op, nn, vk, vn, vs, src, name, dist⟩ (.slice ad l.length cap) W (hcs.below (h.mono hN)) (hps.below (h.mono hN)) (Nat.le_trans hN h.size) hcl hpl hxok rfl
          by_cases hz : (leafU cs ps ⟨4, op, nn, vk, vn, vs, src, name, dist⟩).2 = 0
          · have hspec : nodeR cs ps ⟨4, op, nn, vk, vn, vs, src, name, dist⟩ acc = if (opKR op nn acc).2 then ((opKR op nn acc).1, 0) else (0, 8) := by unfold nodeR; rw [hfo, if_pos (by simpa using hf0)]; unfold partR; rw [if_pos (by simpa using hz)]; simp
            obtain ⟨hop, hra4⟩ := sfN_four (by omega) hf0
            have hoc := fun (W : World) (hb : Below wr.heap.size wr W) (hJW : spaceTab W.heap.size W) => Tryz.opKind ⟨4, op, nn, vk, vn, vs, src, name, dist⟩ (.slice ad l.length cap) acc ad' cap' wr.heap.size W (hI.below hb) hb.size hop (by rw [hlen2]; exact hra4) (by omega) hra hJW
            simp only [hlen2] at hoc
            rw [hz] at hlf
            generalize (leafU cs ps ⟨4, op, nn, vk, vn, vs, src, name, dist⟩).1 = z0 at *
            generalize (opKR op nn acc).1 = z at *
            generalize (opKR op nn acc).2 = u at *
            clear hfo hf0 hz
            cases u with
            | true =>
              replace hspec := Lib.hid (hfin.out.trans hspec)
              go_wp2_with (first
                | (go_at_call 126; refine hfm.mono ?_; rintro e w2 ⟨rfl, hb2⟩; have hB2 := hB.next hb2; have hw2 := below_next hwr hb2; have hI2 := hI.below hb2; clear hB; have hB := hB2; clear hB2; obtain ⟨c0, c1, c2, c3, c4, c5, c6, c7, c8, c9, c10, c11, c12⟩ := hB.is; simp only at c0 c1 c2 c3 c4 c5 c6 c7 c8)
                | (go_at_call 127; refine (hlf _ hw2).mono ?_; rintro e w4 ⟨rfl, hb4⟩; have hw4 := below_next hw2 hb4; have hb24 := below_next hb2 hb4; have hB4 := hB.next hb4; clear hB; have hB := hB4; clear hB4; obtain ⟨c0, c1, c2, c3, c4, c5, c6, c7, c8, c9, c10, c11, c12⟩ := hB.is; simp only at c0 c1 c2 c3 c4 c5 c6 c7 c8)
                | (go_at_call 128; refine (hoc _ hb24 (Lib.tabBelow_of_tabIs (hJ.on hw4).here)).mono ?_; rintro e w6 ⟨rfl, hb6⟩; have hw6 := below_next hw4 hb6))
              go_ret2
              rw [hspec.out]
              exact ⟨rfl, hw6⟩
            | false =>
              replace hspec := Lib.hid (hfin.out.trans hspec)
              go_wp2_with (first
                | (go_at_call 126; refine hfm.mono ?_; rintro e w2 ⟨rfl, hb2⟩; have hB2 := hB.next hb2; have hw2 := below_next hwr hb2; have hI2 := hI.below hb2; clear hB; have hB := hB2; clear hB2; obtain ⟨c0, c1, c2, c3, c4, c5, c6, c7, c8, c9, c10, c11, c12⟩ := hB.is; simp only at c0 c1 c2 c3 c4 c5 c6 c7 c8)
                | (go_at_call 127; refine (hlf _ hw2).mono ?_; rintro e w4 ⟨rfl, hb4⟩; have hw4 := below_next hw2 hb4; have hb24 := below_next hb2 hb4; have hB4 := hB.next hb4; clear hB; have hB := hB4; clear hB4; obtain ⟨c0, c1, c2, c3, c4, c5, c6, c7, c8, c9, c10, c11, c12⟩ := hB.is; simp only at c0 c1 c2 c3 c4 c5 c6 c7 c8)
                | (go_at_call 128; refine (hoc _ hb24 (Lib.tabBelow_of_tabIs (hJ.on hw4).here)).mono ?_; rintro e w6 ⟨rfl, hb6⟩; have hw6 := below_next hw4 hb6))
              go_ret2
              rw [hspec.out]
              exact ⟨rfl, hw6⟩
          · have hspec : nodeR cs ps ⟨4, op, nn, vk, vn, vs, src, name, dist⟩ acc = ((leafU cs ps ⟨4, op, nn, vk, vn, vs, src, name, dist⟩).1, (leafU cs ps ⟨4, op, nn, vk, vn, vs, src, name, dist⟩).2) := by unfold nodeR; rw [hfo, if_pos (by simpa using hf0)]; unfold partR; rw [if_neg (by simpa using hz)]
            replace hspec := Lib.hid (hfin.out.trans hspec)
            generalize (leafU cs ps ⟨4, op, nn, vk, vn, vs, src, name, dist⟩).1 = z at *
            generalize (leafU cs ps ⟨4, op, nn, vk, vn, vs, src, name, dist⟩).2 = u at *
            have hz2 : (u != 0) = true := by simpa using hz
            clear hfo hf0 hz
            go_wp2_with (first
              | (go_at_call 126; refine hfm.mono ?_; rintro e w2 ⟨rfl, hb2⟩; have hB2 := hB.next hb2; have hw2 := below_next hwr hb2; have hI2 := hI.below hb2; clear hB; have hB := hB2; clear hB2; obtain ⟨c0, c1, c2, c3, c4, c5, c6, c7, c8, c9, c10, c11, c12⟩ := hB.is; simp only at c0 c1 c2 c3 c4 c5 c6 c7 c8)
              | (go_at_call 127; refine (hlf _ hw2).mono ?_; rintro e w4 ⟨rfl, hb4⟩; have hw4 := below_next hw2 hb4; have hb24 := below_next hb2 hb4; have hB4 := hB.next hb4; clear hB; have hB := hB4; clear hB4; obtain ⟨c0, c1, c2, c3, c4, c5, c6, c7, c8, c9, c10, c11, c12⟩ := hB.is; simp only at c0 c1 c2 c3 c4 c5 c6 c7 c8))
            go_ret2
            rw [hspec.out]
            exact ⟨rfl, hw4⟩
        · have hspec : nodeR cs ps ⟨4, op, nn, vk, vn, vs, src, name, dist⟩ acc = (0, sfN ⟨4, op, nn, vk, vn, vs, src, name, dist⟩ l.length) := by unfold nodeR; rw [hfo, if_neg (by simpa using hf0)]
          replace hspec := Lib.hid (hfin.out.trans hspec)
          have hf1 : (sfN ⟨4, op, nn, vk, vn, vs, src, name, dist⟩ l.length != 0) = true := by simpa using hf0
          clear hfo hf0
          generalize sfN ⟨4, op, nn, vk, vn, vs, src, name, dist⟩ l.length = fm at *
          go_wp2_with (first | (go_at_call 126; refine hfm.mono ?_; rintro e w2 ⟨rfl, hb2⟩; have hB2 := hB.next hb2; have hw2 := below_next hwr hb2; have hI2 := hI.below hb2; clear hB; have hB := hB2; clear hB2; obtain ⟨c0, c1, c2, c3, c4, c5, c6, c7, c8, c9, c10, c11, c12⟩ := hB.is; simp only at c0 c1 c2 c3 c4 c5 c6 c7 c8))
          go_ret2
          rw [hspec.out]
          exact ⟨rfl, hw2⟩
      · have hfm := Tryz.sform ⟨5, op, nn, vk, vn, vs, src, name, dist⟩ ad l.length cap wr (by omega) hJr
        by_cases hf0 : sfN ⟨5, op, nn, vk, vn, vs, src, name, dist⟩ l.length = 0
        · rw [hf0] at hfm
          have hlf := fun (W : World) (h : Below w.heap.size w W) => Tryz.leafT cs ps cad pad cc pc N ⟨5, op, nn, vk, vn, vs, src, name, dist⟩ (.slice ad l.length cap) W (hcs.below (h.mono hN)) (hps.below (h.mono hN)) (Nat.le_trans hN h.size) hcl hpl hxok rfl
          by_cases hz : (leafU cs ps ⟨5, op, nn, vk, vn, vs, src, name, dist⟩).2 = 0
          · have hspec : nodeR cs ps ⟨5, op, nn, vk, vn, vs, src, name, dist⟩ acc = if (caseR acc).2 then ((caseR acc).1, 0) else (0, 8) := by unfold nodeR; rw [hfo, if_pos (by simpa using hf0)]; unfold partR; rw [if_pos (by simpa using hz)]; simp
            have hoc := fun (W : World) (hb : Below wr.heap.size wr W) (hJW : spaceTab W.heap.size W) => Tryz.caseKind5 ⟨5, op, nn, vk, vn, vs, src, name, dist⟩ rfl (.slice ad l.length cap) acc ad' cap' wr.heap.size W (hI.below hb) hb.size (by have := sfN_five hf0; omega) (by omega) hra
            simp only [hlen2] at hoc
            rw [hz] at hlf
            generalize (leafU cs ps ⟨5, op, nn, vk, vn, vs, src, name, dist⟩).1 = z0 at *
            generalize (caseR acc).1 = z at *
            generalize (caseR acc).2 = u at *
            clear hfo hf0 hz
            cases u with
            | true =>
              replace hspec := Lib.hid (hfin.out.trans hspec)
              go_wp2_with (first
                | (go_at_call 126; refine hfm.mono ?_; rintro e w2 ⟨rfl, hb2⟩; have hB2 := hB.next hb2; have hw2 := below_next hwr hb2; have hI2 := hI.below hb2; clear hB; have hB := hB2; clear hB2; obtain ⟨c0, c1, c2, c3, c4, c5, c6, c7, c8, c9, c10, c11, c12⟩ := hB.is; simp only at c0 c1 c2 c3 c4 c5 c6 c7 c8)
                | (go_at_call 127; refine (hlf _ hw2).mono ?_; rintro e w4 ⟨rfl, hb4⟩; have hw4 := below_next hw2 hb4; have hb24 := below_next hb2 hb4; have hB4 := hB.next hb4; clear hB; have hB := hB4; clear hB4; obtain ⟨c0, c1, c2, c3, c4, c5, c6, c7, c8, c9, c10, c11, c12⟩ := hB.is; simp only at c0 c1 c2 c3 c4 c5 c6 c7 c8)
                | (go_at_call 129; refine (hoc _ hb24 (Lib.tabBelow_of_tabIs (hJ.on hw4).here)).mono ?_; rintro e w6 ⟨rfl, hb6⟩; have hw6 := below_next hw4 hb6))
              go_ret2
              rw [hspec.out]
              exact ⟨rfl, hw6⟩
            | false =>
              replace hspec := Lib.hid (hfin.out.trans hspec)
              go_wp2_with (first
                | (go_at_call 126; refine hfm.mono ?_; rintro e w2 ⟨rfl, hb2⟩; have hB2 := hB.next hb2; have hw2 := below_next hwr hb2; have hI2 := hI.below hb2; clear hB; have hB := hB2; clear hB2; obtain ⟨c0, c1, c2, c3, c4, c5, c6, c7, c8, c9, c10, c11, c12⟩ := hB.is; simp only at c0 c1 c2 c3 c4 c5 c6 c7 c8)
                | (go_at_call 127; refine (hlf _ hw2).mono ?_; rintro e w4 ⟨rfl, hb4⟩; have hw4 := below_next hw2 hb4; have hb24 := below_next hb2 hb4; have hB4 := hB.next hb4; clear hB; have hB := hB4; clear hB4; obtain ⟨c0, c1, c2, c3, c4, c5, c6, c7, c8, c9, c10, c11, c12⟩ := hB.is; simp only at c0 c1 c2 c3 c4 c5 c6 c7 c8)
                | (go_at_call 129; refine (hoc _ hb24 (Lib.tabBelow_of_tabIs (hJ.on hw4).here)).mono ?_; rintro e w6 ⟨rfl, hb6⟩; have hw6 := below_next hw4 hb6))
              go_ret2
              rw [hspec.out]
              exact ⟨rfl, hw6⟩
          · have hspec : nodeR cs ps ⟨5, op, nn, vk, vn, vs, src, name, dist⟩ acc = ((leafU cs ps ⟨5, op, nn, vk, vn, vs, src, name, dist⟩).1, (leafU cs ps ⟨5, op, nn, vk, vn, vs, src, name, dist⟩).2) := by unfold nodeR; rw [hfo, if_pos (by simpa using hf0)]; unfold partR; rw [if_neg (by simpa using hz)]
            replace hspec := Lib.hid (hfin.out.trans hspec)
            generalize (leafU cs ps ⟨5, op, nn, vk, vn, vs, src, name, dist⟩).1 = z at *
            generalize (leafU cs ps ⟨5, op, nn, vk, vn, vs, src, name, dist⟩).2 = u at *
            have hz2 : (u != 0) = true := by simpa using hz
            clear hfo hf0 hz
            go_wp2_with (first
              | (go_at_call 126; refine hfm.mono ?_; rintro e w2 ⟨rfl, hb2⟩; have hB2 := hB.next hb2; have hw2 := below_next hwr hb2; have hI2 := hI.below hb2; clear hB; have hB := hB2; clear hB2; obtain ⟨c0, c1, c2, c3, c4, c5, c6, c7, c8, c9, c10, c11, c12⟩ := hB.is; simp only at c0 c1 c2 c3 c4 c5 c6 c7 c8)
              | (go_at_call 127; refine (hlf _ hw2).mono ?_; rintro e w4 ⟨rfl, hb4⟩; have hw4 := below_next hw2 hb4; have hb24 := below_next hb2 hb4; have hB4 := hB.next hb4; clear hB; have hB := hB4; clear hB4; obtain ⟨c0, c1, c2, c3, c4, c5, c6, c7, c8, c9, c10, c11, c12⟩ := hB.is; simp only at c0 c1 c2 c3 c4 c5 c6 c7 c8))
            go_ret2
            rw [hspec.out]
            exact ⟨rfl, hw4⟩
        · have hspec : nodeR cs ps ⟨5, op, nn, vk, vn, vs, src, name, dist⟩ acc = (0, sfN ⟨5, op, nn, vk, vn, vs, src, name, dist⟩ l.length) := by unfold nodeR; rw [hfo, if_neg (by simpa using hf0)]
          replace hspec := Lib.hid (hfin.out.trans hspec)
          have hf1 : (sfN ⟨5, op, nn, vk, vn, vs, src, name, dist⟩ l.length != 0) = true := by simpa using hf0
          clear hfo hf0
          generalize sfN ⟨5, op, nn, vk, vn, vs, src, name, dist⟩ l.length = fm at *
          go_wp2_with (first | (go_at_call 126; refine hfm.mono ?_; rintro e w2 ⟨rfl, hb2⟩; have hB2 := hB.next hb2; have hw2 := below_next hwr hb2; have hI2 := hI.below hb2; clear hB; have hB := hB2; clear hB2; obtain ⟨c0, c1, c2, c3, c4, c5, c6, c7, c8, c9, c10, c11, c12⟩ := hB.is; simp only at c0 c1 c2 c3 c4 c5 c6 c7 c8))
          go_ret2
          rw [hspec.out]
          exact ⟨rfl, hw2⟩
      · have hfm := Tryz.sform ⟨6, op, nn, vk, vn, vs, src, name, dist⟩ ad l.length cap wr (by omega) hJr
        by_cases hf0 : sfN ⟨6, op, nn, vk, vn, vs, src, name, dist⟩ l.length = 0
        · rw [hf0] at hfm
          have hlf := fun (W : World) (h : Below w.heap.size w W) => Tryz.leafT cs ps cad pad cc pc N ⟨6, op, nn, vk, vn, vs, src, name, dist⟩ (.slice ad l.length cap) W (hcs.below (h.mono hN)) (hps.below (h.mono hN)) (Nat.le_trans hN h.size) hcl hpl hxok rfl
          by_cases hz : (leafU cs ps ⟨6, op, nn, vk, vn, vs, src, name, dist⟩).2 = 0
          · have hspec : nodeR cs ps ⟨6, op, nn, vk, vn, vs, src, name, dist⟩ acc = if (fitsF 0 acc).2 then (1, 0) else (0, 8) := by unfold nodeR; rw [hfo, if_pos (by simpa using hf0)]; unfold partR; rw [if_pos (by simpa using hz)]; simp
            have hoc := fun (W : World) (hb : Below wr.heap.size wr W) (hJW : spaceTab W.heap.size W) => Tryz.caseKind6 ⟨6, op, nn, vk, vn, vs, src, name, dist⟩ rfl (.slice ad l.length cap) acc ad' cap' wr.heap.size W (hI.below hb) hb.size (by omega)
            simp only [hlen2] at hoc
            rw [hz] at hlf
            generalize (leafU cs ps ⟨6, op, nn, vk, vn, vs, src, name, dist⟩).1 = z0 at *
            generalize (fitsF 0 acc).1 = z at *
            generalize (fitsF 0 acc).2 = u at *
            clear hfo hf0 hz
            cases u with
            | true =>
              replace hspec := Lib.hid (hfin.out.trans hspec)
              go_wp2_with (first
                | (go_at_call 126; refine hfm.mono ?_; rintro e w2 ⟨rfl, hb2⟩; have hB2 := hB.next hb2; have hw2 := below_next hwr hb2; have hI2 := hI.below hb2; clear hB; have hB := hB2; clear hB2; obtain ⟨c0, c1, c2, c3, c4, c5, c6, c7, c8, c9, c10, c11, c12⟩ := hB.is; simp only at c0 c1 c2 c3 c4 c5 c6 c7 c8)
                | (go_at_call 127; refine (hlf _ hw2).mono ?_; rintro e w4 ⟨rfl, hb4⟩; have hw4 := below_next hw2 hb4; have hb24 := below_next hb2 hb4; have hB4 := hB.next hb4; clear hB; have hB := hB4; clear hB4; obtain ⟨c0, c1, c2, c3, c4, c5, c6, c7, c8, c9, c10, c11, c12⟩ := hB.is; simp only at c0 c1 c2 c3 c4 c5 c6 c7 c8)
                | (go_at_call 129; refine (hoc _ hb24 (Lib.tabBelow_of_tabIs (hJ.on hw4).here)).mono ?_; rintro e w6 ⟨rfl, hb6⟩; have hw6 := below_next hw4 hb6))
              go_ret2
              rw [hspec.out]
              exact ⟨rfl, hw6⟩
            | false =>
              replace hspec := Lib.hid (hfin.out.trans hspec)
              go_wp2_with (first
                | (go_at_call 126; refine hfm.mono ?_; rintro e w2 ⟨rfl, hb2⟩; have hB2 := hB.next hb2; have hw2 := below_next hwr hb2; have hI2 := hI.below hb2; clear hB; have hB := hB2; clear hB2; obtain ⟨c0, c1, c2, c3, c4, c5, c6, c7, c8, c9, c10, c11, c12⟩ := hB.is; simp only at c0 c1 c2 c3 c4 c5 c6 c7 c8)
                | (go_at_call 127; refine (hlf _ hw2).mono ?_; rintro e w4 ⟨rfl, hb4⟩; have hw4 := below_next hw2 hb4; have hb24 := below_next hb2 hb4; have hB4 := hB.next hb4; clear hB; have hB := hB4; clear hB4; obtain ⟨c0, c1, c2, c3, c4, c5, c6, c7, c8, c9, c10, c11, c12⟩ := hB.is; simp only at c0 c1 c2 c3 c4 c5 c6 c7 c8)
                | (go_at_call 129; refine (hoc _ hb24 (Lib.tabBelow_of_tabIs (hJ.on hw4).here)).mono ?_; rintro e w6 ⟨rfl, hb6⟩; have hw6 := below_next hw4 hb6))
              go_ret2
              rw [hspec.out]
              exact ⟨rfl, hw6⟩
          · have hspec : nodeR cs ps ⟨6, op, nn, vk, vn, vs, src, name, dist⟩ acc = ((leafU cs ps ⟨6, op, nn, vk, vn, vs, src, name, dist⟩).1, (leafU cs ps ⟨6, op, nn, vk, vn, vs, src, name, dist⟩).2) := by unfold nodeR; rw [hfo, if_pos (by simpa using hf0)]; unfold partR; rw [if_neg (by simpa using hz)]
            replace hspec := Lib.hid (hfin.out.trans hspec)
            generalize (leafU cs ps ⟨6, op, nn, vk, vn, vs, src, name, dist⟩).1 = z at *
            generalize (leafU cs ps ⟨6, op, nn, vk, vn, vs, src, name, dist⟩).2 = u at *
            have hz2 : (u != 0) = true := by simpa using hz
            clear hfo hf0 hz
            go_wp2_with (first
              | (go_at_call 126; refine hfm.mono ?_; rintro e w2 ⟨rfl, hb2⟩; have hB2 := hB.next hb2; have hw2 := below_next hwr hb2; have hI2 := hI.below hb2; clear hB; have hB := hB2; clear hB2; obtain ⟨c0, c1, c2, c3, c4, c5, c6, c7, c8, c9, c10, c11, c12⟩ := hB.is; simp only at c0 c1 c2 c3 c4 c5 c6 c7 c8)
              | (go_at_call 127; refine (hlf _ hw2).mono ?_; rintro e w4 ⟨rfl, hb4⟩; have hw4 := below_next hw2 hb4; have hb24 := below_next hb2 hb4; have hB4 := hB.next hb4; clear hB; have hB := hB4; clear hB4; obtain ⟨c0, c1, c2, c3, c4, c5, c6, c7, c8, c9, c10, c11, c12⟩ := hB.is; simp only at c0 c1 c2 c3 c4 c5 c6 c7 c8))
            go_ret2
            rw [hspec.out]
            exact ⟨rfl, hw4⟩
        · have hspec : nodeR cs ps ⟨6, op, nn, vk, vn, vs, src, name, dist⟩ acc = (0, sfN ⟨6, op, nn, vk, vn, vs, src, name, dist⟩ l.length) := by unfold nodeR; rw [hfo, if_neg (by simpa using hf0)]
          replace hspec := Lib.hid (hfin.out.trans hspec)
          have hf1 : (sfN ⟨6, op, nn, vk, vn, vs, src, name, dist⟩ l.length != 0) = true := by simpa using hf0
          clear hfo hf0
          generalize sfN ⟨6, op, nn, vk, vn, vs, src, name, dist⟩ l.length = fm at *
          go_wp2_with (first | (go_at_call 126; refine hfm.mono ?_; rintro e w2 ⟨rfl, hb2⟩; have hB2 := hB.next hb2; have hw2 := below_next hwr hb2; have hI2 := hI.below hb2; clear hB; have hB := hB2; clear hB2; obtain ⟨c0, c1, c2, c3, c4, c5, c6, c7, c8, c9, c10, c11, c12⟩ := hB.is; simp only at c0 c1 c2 c3 c4 c5 c6 c7 c8))
          go_ret2
          rw [hspec.out]
          exact ⟨rfl, hw2⟩

theorem Tryz.scal (cs : List Col) (ps : List Int) (cad pad : Option Addr) (cc pc N : Nat) (hcl : cs.length ≤ 1000000) (hpl : ps.length ≤ 1000000) (hpk : ∀ q ∈ ps, 0 ≤ q ∧ q ≤ 4) (hck : ∀ q ∈ cs, 0 ≤ q.kind ∧ q.kind ≤ 4) : ∀ d, ScalC cs ps cad pad cc pc N d
  | 0 => fun _ _ _ _ h => h.elim
  | d + 1 => fun e ad cap w h hcs hps hN hJ => by
    have ih := Tryz.scal cs ps cad pad cc pc N hcl hpl hpk hck d
    obtain ⟨⟨k, op, nn, vk, vn, vs, src, name, dist⟩, l⟩ := e
    obtain ⟨hok, h2, h3, h4⟩ := h
    have hA : NodeArgs d w N ad cap l := ⟨h2, h3, h4⟩
    exact Tryz.scalA k op nn vk vn vs src name dist l ad cap d N cs ps cad pad cc pc w ih hA hok hcs hps hN hcl hpl hpk hck hJ
end Go.Proofs
