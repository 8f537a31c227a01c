/- Of package value: the kind of an expression. The condition: the library's table of white space. -/
import Derived.Test.YtkpligcifakmjaaGreatDoorForm
import Derived.Test.YtkpligcifakmjaaGreatDoorOpn
import Derived.Test.YtkpligcifakmjaaGreatDoorCaM
namespace Go.Proofs
open Go.RowKit Go.Ke

structure NodeArgs (d : Nat) (w : World) (N : Nat) (ad : Option Addr) (cap : Nat) (l : List Ex) : Prop where
  len : l.length ≤ 1000000
  cap : l.length ≤ cap
  args : ∀ i (h : i < l.length), ∃ p o bd bc, ad = some ⟨p, o, none⟩ ∧ p < N ∧ CellsAt w p (o + i * 13) l[i].node (.slice bd l[i].args.length bc) ∧ ExIs d w N bd bc l[i]

theorem Own.ints2 {B : Nat} {v : Value} {l : List Int} {W0 w : World} (h : Own B 3 1 v l.length (intCells l) W0 w) (hr : inRangeL l) : ∃ ad cap, v = .slice ad l.length cap ∧ IntsAt w w.heap.size ad l ∧ l.length ≤ cap := by
  obtain ⟨ad, cap, h1, h2⟩ := h.ints hr
  refine ⟨ad, cap, h1, h2, ?_⟩
  rcases h.1.2 with ⟨hv, hn⟩ | ⟨g, cap', cur, hv, hb, hg, hc, _⟩
  · omega
  · rw [h1] at hv
    injection hv with _ _ h5
    omega

/-- A fold of kinds stays among the kinds. -/
theorem fold_kinds {f : Node → List Int → Int × Int} (hf : ∀ x k, (∀ q ∈ k, 0 ≤ q ∧ q ≤ 4) → (f x k).2 = 0 → 0 ≤ (f x k).1 ∧ (f x k).1 ≤ 4) (e : Ex) (h : (foldT f e).2 = 0) : 0 ≤ (foldT f e).1 ∧ (foldT f e).1 ≤ 4 := by
  have h1 := (fold_same (f := f) (g := f) (ok := fun k => ∀ q ∈ k, 0 ≤ q ∧ q ≤ 4) (by simp) (fun x k l hk h0 hl => by
    intro q hq
    rw [List.mem_cons] at hq
    rcases hq with rfl | hq
    · exact hf x k hk h0
    · exact hl q hq) (fun _ _ _ => rfl) (countL e.args)).2 e.args (Nat.le_refl _)
  rw [foldT_eq] at h ⊢
  by_cases h2 : (foldL f e.args).2 = 0
  · rw [if_pos h2] at h ⊢
    exact hf _ _ (h1.2 h2) h
  · rw [if_neg h2] at h; exact absurd h h2

def partV (cs : List Col) (ps : List Int) (x : Node) (ks : List Int) : Int × Int :=
  if x.k == 1 then (x.vk, 0)
  else if x.k == 2 then (if inB x.n 0 ((ps.length : Int) - 1) then (ps.getD x.n.toNat 0, 0) else (0, 1))
  else if x.k == 3 then (if decide (0 ≤ colAt x.src x.name 0 cs) then ((cs.map Col.kind).getD (colAt x.src x.name 0 cs).toNat 0, 0) else (0, 5))
  else if x.k == 4 then (if rightNB x.op x.n then (if (operN x.op x.n ks).2 then ((operN x.op x.n ks).1, 0) else (0, 8)) else (0, 1))
  else if x.k == 5 then (if (caseN ks).2 then ((caseN ks).1, 0) else (0, 8))
  else (if (commonF 0 ks).2 then (1, 0) else (0, 8))

def nodeV (cs : List Col) (ps : List Int) (x : Node) (ks : List Int) : Int × Int :=
  if formN x ks.length == 0 then partV cs ps x ks else (0, formN x ks.length)

/-- What is claimed of trees of at most d levels. -/
def KindC (cs : List Col) (ps : List Int) (cad pad : Option Addr) (cc pc N d : Nat) : Prop :=
  ∀ (e : Ex) (ad : Option Addr) (cap : Nat) (w : World), ExIs d w N ad cap e → ColsAt w N cad cs → IntsAt w N pad ps → N ≤ w.heap.size → spaceTab w.heap.size w →
    Calls Tryz.prog 82 #[.agg #[.slice cad cs.length cc, .slice pad ps.length pc], e.v ad cap] w fun r w' => r = .returned (.tuple #[.int .i64 (foldT (nodeV cs ps) e).1, .int .i64 (foldT (nodeV cs ps) e).2]) ∧ Below w.heap.size w w'

theorem formN_four {op nn vk vn : Int} {vs src name : ByteArray} {dist : Bool} {n : Nat} (h : formN ⟨4, op, nn, vk, vn, vs, src, name, dist⟩ n = 0) : inB op 1 27 = true ∧ rightArgsB 4 op n = true := by
  unfold formN at h
  simp only at h
  split at h
  · omega
  · rename_i h1
    split at h
    · omega
    · rename_i h2
      constructor
      · cases hq : inB op 1 27 with
        | true => rfl
        | false => simp [hq] at h1
      · cases hq : rightArgsB 4 op n with
        | true => rfl
        | false => simp [hq] at h2

theorem formN_five {op nn vk vn : Int} {vs src name : ByteArray} {dist : Bool} {n : Nat} (h : formN ⟨5, op, nn, vk, vn, vs, src, name, dist⟩ n = 0) : 3 ≤ n := by
  unfold formN at h
  simp only at h
  split at h
  · omega
  · split at h
    · omega
    · rename_i h2
      cases hq : rightArgsB 5 op n with
      | true => simp [rightArgsB] at hq; omega
      | false => simp [hq] at h2

theorem formN_one {op nn vk vn : Int} {vs src name : ByteArray} {dist : Bool} {n : Nat} (h : formN ⟨1, op, nn, vk, vn, vs, src, name, dist⟩ n = 0) : 0 ≤ vk ∧ vk ≤ 4 := by
  unfold formN at h
  simp only at h
  split at h
  · omega
  · split at h
    · omega
    · rw [if_neg (by decide)] at h
      split at h
      · rename_i h3; simp at h3; omega
      · split at h
        · omega
        · rename_i h4; simp [inB] at h4; omega

theorem commonF_range : ∀ (l : List Int) (out : Int), 0 ≤ out → out ≤ 4 → (∀ k ∈ l, 0 ≤ k ∧ k ≤ 4) → 0 ≤ (commonF out l).1 ∧ (commonF out l).1 ≤ 4 := by
  intro l out h h4 hl
  rw [common_fits l out h (fun k hk => (hl k hk).1)]
  exact fitsF_range l out h h4 hl

theorem casesG_range {fin : List Int → Int × Bool} (hf : ∀ l, (∀ k ∈ l, 0 ≤ k ∧ k ≤ 4) → 0 ≤ (fin l).1 ∧ (fin l).1 ≤ 4) : ∀ (n : Nat) (l acc : List Int), l.length ≤ n → (∀ k ∈ acc, 0 ≤ k ∧ k ≤ 4) → (∀ k ∈ l, 0 ≤ k ∧ k ≤ 4) → 0 ≤ (casesG fin acc l).1 ∧ (casesG fin acc l).1 ≤ 4 := by
  intro n
  induction n with
  | zero => intro l acc hl ha hk; cases l with
    | nil => exact hf _ ha
    | cons a l => simp at hl
  | succ n ih =>
    intro l acc hl ha hk
    match l, hl, hk with
    | [], _, _ => exact hf _ ha
    | [_], _, _ => exact hf _ ha
    | a :: b :: l, hl, hk =>
      unfold casesG
      split
      · exact ih l (acc ++ [b]) (by simp at hl; omega) (kinds_snoc ha (hk b (by simp))) (fun k h => hk k (by simp [h]))
      · decide

theorem getD_kind {l : List Int} (h : ∀ q ∈ l, 0 ≤ q ∧ q ≤ 4) (i : Nat) : 0 ≤ l.getD i 0 ∧ l.getD i 0 ≤ 4 := by
  rw [List.getD_eq_getElem?_getD]
  cases hi : l[i]? with
  | none => simp
  | some a => exact h a (List.mem_of_getElem? hi)

theorem sumN_range (op a b : Int) (ha : 0 ≤ a ∧ a ≤ 4) : 0 ≤ (sumN op a b).1 ∧ (sumN op a b).1 ≤ 4 := by
  unfold sumN
  repeat' split
  all_goals first | (simp; done) | exact ha

def kp (r : Int × Bool) : Prop := 0 ≤ r.1 ∧ r.1 ≤ 4

theorem kp_ite {c : Prop} [Decidable c] {a b : Int × Bool} (h1 : c → kp a) (h2 : kp b) : kp (if c then a else b) := by
  split
  · exact h1 ‹c›
  · exact h2

theorem kp_lit (k : Int) (b : Bool) (h : 0 ≤ k ∧ k ≤ 4) : kp (k, b) := h

theorem operN_range {op n : Int} {l : List Int} (hl : ∀ q ∈ l, 0 ≤ q ∧ q ≤ 4) (hn : op = 27 → 0 ≤ n ∧ n ≤ 4) : 0 ≤ (operN op n l).1 ∧ (operN op n l).1 ≤ 4 := by
  show kp (operN op n l)
  unfold operN
  iterate 3 refine kp_ite (fun _ => kp_lit _ _ (by decide)) ?_
  refine kp_ite (fun _ => sumN_range _ _ _ (getD_kind hl 0)) ?_
  iterate 7 refine kp_ite (fun _ => kp_lit _ _ (by decide)) ?_
  refine kp_ite (fun _ => commonF_range l 0 (by decide) (by decide) hl) ?_
  iterate 2 refine kp_ite (fun _ => kp_lit _ _ (by decide)) ?_
  exact kp_ite (fun h => kp_lit _ _ (hn (by simpa using h))) (kp_lit _ _ (by decide))

theorem nodeV_range {cs : List Col} {ps : List Int} (hpk : ∀ q ∈ ps, 0 ≤ q ∧ q ≤ 4) (hck : ∀ q ∈ cs, 0 ≤ q.kind ∧ q.kind ≤ 4) (x : Node) (ks : List Int) (hk : ∀ q ∈ ks, 0 ≤ q ∧ q ≤ 4) (h : (nodeV cs ps x ks).2 = 0) : 0 ≤ (nodeV cs ps x ks).1 ∧ (nodeV cs ps x ks).1 ≤ 4 := by
  obtain ⟨k, op, nn, vk, vn, vs, src, name, dist⟩ := x
  unfold nodeV at h ⊢
  split at h
  · rename_i hf
    rw [if_pos hf]
    simp only [beq_iff_eq] at hf
    unfold partV at h ⊢
    simp only at h ⊢
    by_cases h1 : (k == 1) = true
    · rw [if_pos h1]
      have : k = 1 := by simpa using h1
      subst this
      exact formN_one hf
    · rw [if_neg h1] at h ⊢
      by_cases h2 : (k == 2) = true
      · rw [if_pos h2] at h ⊢
        split
        · exact getD_kind hpk _
        · decide
      · rw [if_neg h2] at h ⊢
        by_cases h3 : (k == 3) = true
        · rw [if_pos h3] at h ⊢
          split
          · exact getD_kind (by simpa using hck) _
          · decide
        · rw [if_neg h3] at h ⊢
          by_cases h4 : (k == 4) = true
          · rw [if_pos h4] at h ⊢
            split
            · rename_i hrn
              split
              · refine operN_range hk fun ho => ?_
                subst ho
                simp [rightNB, inB] at hrn
                omega
              · decide
            · decide
          · rw [if_neg h4] at h ⊢
            by_cases h5 : (k == 5) = true
            · rw [if_pos h5] at h ⊢
              split
              · exact casesG_range (fun l hl => commonF_range l 0 (by decide) (by decide) hl) ks.length ks _ (Nat.le_refl _) (by intro q hq; simp at hq; subst hq; have := getD_kind hk (ks.length - 1); rw [List.getD_eq_getElem?_getD] at this; exact this) hk
              · decide
            · rw [if_neg h5] at h ⊢
              split <;> decide
  · rename_i hf
    rw [if_neg hf]
    exact ⟨Int.le_refl 0, by show (0 : Int) ≤ 4; decide⟩

theorem kk_cases (k : Int) : inB k 1 6 = false ∨ k = 1 ∨ k = 2 ∨ k = 3 ∨ k = 4 ∨ k = 5 ∨ k = 6 := by
  cases h : inB k 1 6 with
  | false => exact .inl rfl
  | true => right; unfold inB at h; simp at h; omega

set_option maxRecDepth 20000 in
set_option maxHeartbeats 2000000 in
theorem Tryz.kindA (k : Int) (op nn vk vn : Int) (vs src name : ByteArray) (dist : Bool) (l : List Ex) (ad : Option Addr) (cap d N : Nat) (cs : List Col) (ps : List Int) (cad pad : Option Addr) (cc pc : Nat) (w : World) (ih : KindC cs ps cad pad cc pc N d)
    (hA : NodeArgs d w N ad cap l) (hxok : Node.ok ⟨k, op, nn, vk, vn, vs, src, name, dist⟩) (hcs : ColsAt w N cad cs) (hps : IntsAt w N pad ps) (hN : N ≤ w.heap.size) (hcl : cs.length ≤ 1000000) (hpl : ps.length ≤ 1000000) (hpk : ∀ q ∈ ps, 0 ≤ q ∧ q ≤ 4) (hck : ∀ q ∈ cs, 0 ≤ q.kind ∧ q.kind ≤ 4) (hJ : spaceTab w.heap.size w) :
    Calls Tryz.prog 82 #[.agg #[.slice cad cs.length cc, .slice pad ps.length pc], Node.v ⟨k, op, nn, vk, vn, vs, src, name, dist⟩ (.slice ad l.length cap)] w fun r w' => r = .returned (.tuple #[.int .i64 (foldT (nodeV cs ps) (.mk ⟨k, op, nn, vk, vn, vs, src, name, dist⟩ l)).1, .int .i64 (foldT (nodeV cs ps) (.mk ⟨k, op, nn, vk, vn, vs, src, name, dist⟩ l)).2]) ∧ Below w.heap.size w w' := by
  obtain ⟨i3, hi3, hz3, hs3, hb3⟩ := info_parts Tryz.info3'
  obtain ⟨hlen, hcap, hargs⟩ := hA
  have hrange := fold_kinds (nodeV_range hpk hck)
  have hw0 : Below w.heap.size w ((w.alloc (.cells #[.slice cad cs.length cc, .slice pad ps.length pc] 99)).alloc (.cells (Node.cells ⟨k, op, nn, vk, vn, vs, src, name, dist⟩ (.slice ad l.length cap)) 57)) := ((Below.refl _ _).alloc (Nat.le_refl _) _).alloc (by rw [ex_alloc_size]; omega) _
  have hB0 : Box ((w.alloc (.cells #[.slice cad cs.length cc, .slice pad ps.length pc] 99)).alloc (.cells (Node.cells ⟨k, op, nn, vk, vn, vs, src, name, dist⟩ (.slice ad l.length cap)) 57)) (w.heap.size + 1) ⟨k, op, nn, vk, vn, vs, src, name, dist⟩ (.slice ad l.length cap) := by rw [← ex_alloc_size w (.cells #[.slice cad cs.length cc, .slice pad ps.length pc] 99)]; exact Box.new _ _ _
  have hK0 : ((w.alloc (.cells #[.slice cad cs.length cc, .slice pad ps.length pc] 99)).alloc (.cells (Node.cells ⟨k, op, nn, vk, vn, vs, src, name, dist⟩ (.slice ad l.length cap)) 57)).heap[w.heap.size]? = some (.cells #[.slice cad cs.length cc, .slice pad ps.length pc] 99) := (heap_alloc_old _ _ (by rw [ex_alloc_size]; omega)).trans (heap_alloc_new _ _)
  have hs0 : ((w.alloc (.cells #[.slice cad cs.length cc, .slice pad ps.length pc] 99)).alloc (.cells (Node.cells ⟨k, op, nn, vk, vn, vs, src, name, dist⟩ (.slice ad l.length cap)) 57)).heap.size = w.heap.size + 2 := by rw [ex_alloc_size, ex_alloc_size]
  unfold Node.v
  go_enter Tryz.func82, Tryz.ntmps82
  go_upto_region 1 with fail
  generalize ((w.alloc (.cells #[.slice cad cs.length cc, .slice pad ps.length pc] 99)).alloc (.cells (Node.cells ⟨k, op, nn, vk, vn, vs, src, name, dist⟩ (.slice ad l.length cap)) 57)) = W1 at hB0 hw0 hs0 hK0 ⊢
  replace hs0 : w.heap.size + 1 < W1.heap.size := by omega
  have c9 := hB0.is.c9
  go_wp2_with fail
  clear c9
  go_loopw [6, 18] (fun v i wr => ∃ (i0 : Nat) (acc : List Int), i = .int .i64 i0 ∧ acc.length = i0 ∧ i0 ≤ l.length ∧ (∀ q ∈ acc, 0 ≤ q ∧ q ≤ 4) ∧ Own w.heap.size 3 1 v acc.length (intCells acc) w wr ∧ Box wr (w.heap.size + 1) ⟨k, op, nn, vk, vn, vs, src, name, dist⟩ (.slice ad l.length cap) ∧ wr.heap[w.heap.size]? = some (.cells #[.slice cad cs.length cc, .slice pad ps.length pc] 99) ∧ (w.heap.size + 1) < wr.heap.size ∧ Hid (behindK acc (foldL (nodeV cs ps) (l.drop i0)) = foldL (nodeV cs ps) l)) (fun _ i _ => l.length - (intOf i).toNat)
  case atStart => exact ⟨0, [], rfl, rfl, Nat.zero_le _, by simp, ⟨World.ownsRow_nil _ _ _ _, hw0, by omega⟩, hB0, hK0, by omega, Lib.hid (behindK_nil _ _)⟩
  case round =>
    obtain ⟨i0, acc, rfl, hacc, hk, hra, hO, hB, hK, hsz, hsp⟩ := hrel
    clear hB0 hw0 hK0 hs0
    have hwr := hO.2.1
    have hszr := hO.2.2
    by_cases hlt : i0 < l.length
    · obtain ⟨pa, po, bd, bc, rfl, hpa, hca, hex⟩ := hargs i0 hlt
      have hcr := hca.of (hwr.block pa (by omega))
      obtain ⟨d0, d1, d2, d3, d4, d5, d6, d7, d8, d9, d10, d11, d12⟩ := hcr
      have hwA : Below wr.heap.size wr (wr.alloc (.cells (l[i0].node.cells (.slice bd l[i0].args.length bc)) 57)) := (Below.refl _ _).alloc (Nat.le_refl _) _
      have hwB := below_next hwr hwA
      have hJA : spaceTab (wr.alloc (.cells (l[i0].node.cells (.slice bd l[i0].args.length bc)) 57)).heap.size (wr.alloc (.cells (l[i0].node.cells (.slice bd l[i0].args.length bc)) 57)) := Lib.tabBelow_of_tabIs (hJ.on hwB).here
      have hi := ih l[i0] bd bc (wr.alloc (.cells (l[i0].node.cells (.slice bd l[i0].args.length bc)) 57)) (hex.below (hwB.mono hN)) (hcs.below (hwB.mono hN)) (hps.below (hwB.mono hN)) (Nat.le_trans hN hwB.size) hJA
      have hrk := hrange l[i0]
      have hdr : l.drop i0 = l[i0] :: l.drop (i0 + 1) := List.drop_eq_getElem_cons hlt
      have hst := hsp.out
      rw [hdr] at hst
      have hgood := behindK_good (f := (nodeV cs ps)) (a := l[i0]) (l := l.drop (i0 + 1)) acc
      have hbad := behindK_bad (f := (nodeV cs ps)) (a := l[i0]) (l := l.drop (i0 + 1)) acc
      have k0 : wr.cell? ⟨w.heap.size, 0, none⟩ = some (.slice cad cs.length cc) := by simp [World.cell?, hK]
      have k1 : wr.cell? ⟨w.heap.size, 1, none⟩ = some (.slice pad ps.length pc) := by simp [World.cell?, hK]
      have k0A : ∀ o, (wr.alloc o).cell? ⟨w.heap.size, 0, none⟩ = some (.slice cad cs.length cc) := fun o => (((Below.refl wr.heap.size wr).alloc (Nat.le_refl _) o).cell (p := ⟨w.heap.size, 0, none⟩) (show w.heap.size < wr.heap.size by omega)).trans k0
      have k1A : ∀ o, (wr.alloc o).cell? ⟨w.heap.size, 1, none⟩ = some (.slice pad ps.length pc) := fun o => (((Below.refl wr.heap.size wr).alloc (Nat.le_refl _) o).cell (p := ⟨w.heap.size, 1, none⟩) (show w.heap.size < wr.heap.size by omega)).trans k1
      clear hca hex hdr hsp
      by_cases hz : (foldT (nodeV cs ps) l[i0]).2 = 0
      · replace hst := (hgood hz).symm.trans hst
        have hrk := hrk hz
        rw [hz] at hi
        clear hgood hbad hz
        generalize (foldT (nodeV cs ps) l[i0]).1 = z at *
        replace hst := Lib.hid hst
        go_wp2_with (first
          | (go_at_call 82; refine hi.mono ?_; rintro r w2 ⟨rfl, hb2⟩; have hwk := below_next hwA hb2; have hO1 := hO.call hwk; have hB1 := hB.next hwk; have hsz1 := hwk.size)
          | (at_builtin; refine append_int ?_ (.tmp 31) (.tmp 33) 28 ?_ w.heap.size 3 i3 Tryz.underlying28 hi3 hz3 hs3 hb3 _ _ _ w _ hO1 z (by omega) ?_ ?_ ?_; rfl; rfl; rfl; exact ⟨_, rfl, rfl⟩; intro v3 w3 hO3 hbx))
        go_roundw
        case rel => exact ⟨i0 + 1, acc ++ [z], by go_num, by simp [hacc], by omega, kinds_snoc hra hrk, hO3.snoc, (hbx 57 (by decide)).2 _ _ _ hB1, (hbx 99 (by decide)).2 _ _ _ ((hwk.block _ (by omega)).trans hK), Nat.lt_of_lt_of_le (by omega) (hbx 57 (by decide)).1, hst⟩
        case measure => simp [intOf]; omega
      · replace hst := (hbad hz).symm.trans hst
        have hfin : foldT (nodeV cs ps) (.mk ⟨k, op, nn, vk, vn, vs, src, name, dist⟩ l) = (0, (foldT (nodeV cs ps) l[i0]).2) := by
          show (if (foldL (nodeV cs ps) l).2 = 0 then _ else (0, (foldL (nodeV cs ps) l).2)) = _
          rw [← hst, if_neg hz]
        clear hgood hbad hst hrk
        generalize (foldT (nodeV cs ps) l[i0]).1 = z at hi
        generalize (foldT (nodeV cs ps) l[i0]).2 = u at *
        have hz2 : (u != 0) = true := by simpa using hz
        replace hfin := Lib.hid hfin
        clear hz
        go_wp2_with (first
          | (go_at_call 82; refine hi.mono ?_; rintro r w2 ⟨rfl, hb2⟩))
        go_ret2
        rw [hfin.out]
        exact ⟨rfl, below_next hwB hb2⟩
    · have hst := hsp.out
      rw [List.drop_of_length_le (by omega), behindK_end] at hst
      have hlen2 : acc.length = l.length := by omega
      have hfin : foldT (nodeV cs ps) (.mk ⟨k, op, nn, vk, vn, vs, src, name, dist⟩ l) = (nodeV cs ps) ⟨k, op, nn, vk, vn, vs, src, name, dist⟩ acc := by
        show (if (foldL (nodeV cs ps) l).2 = 0 then (nodeV cs ps) ⟨k, op, nn, vk, vn, vs, src, name, dist⟩ (foldL (nodeV cs ps) l).1 else (0, (foldL (nodeV cs ps) l).2)) = _
        rw [← hst]; rfl
      replace hfin := Lib.hid hfin
      obtain ⟨ad', cap', rfl, hI, hcap'⟩ := hO.ints2 (kinds_range hra)
      have hJr : spaceTab wr.heap.size wr := Lib.tabBelow_of_tabIs (hJ.on hwr).here
      rw [hlen2] at hcap' ⊢
      have hfo : formN ⟨k, op, nn, vk, vn, vs, src, name, dist⟩ acc.length = formN ⟨k, op, nn, vk, vn, vs, src, name, dist⟩ l.length := by rw [hlen2]
      obtain ⟨c0, c1, c2, c3, c4, c5, c6, c7, c8, c9, c10, c11, c12⟩ := hB.is
      simp only at c0 c1 c2 c3 c4 c5 c6 c7 c8
      clear hst hsp hargs ih hrange
      rcases kk_cases k with hin | rfl | rfl | rfl | rfl | rfl | rfl
      · have k0 : wr.cell? ⟨w.heap.size, 0, none⟩ = some (.slice cad cs.length cc) := by simp [World.cell?, hK]
        have k1 : wr.cell? ⟨w.heap.size, 1, none⟩ = some (.slice pad ps.length pc) := by simp [World.cell?, hK]
        have hfm := Tryz.formOf ⟨k, op, nn, vk, vn, vs, src, name, dist⟩ ad l.length cap wr hxok hJr
        have hf0 : ¬ formN ⟨k, op, nn, vk, vn, vs, src, name, dist⟩ l.length = 0 := by unfold formN; simp [hin]
        have hdone : True := trivial
        have hspec : nodeV cs ps ⟨k, op, nn, vk, vn, vs, src, name, dist⟩ acc = (0, formN ⟨k, op, nn, vk, vn, vs, src, name, dist⟩ l.length) := by unfold nodeV; rw [hfo, if_neg (by simpa using hf0)]
        replace hspec := Lib.hid (hfin.out.trans hspec)
        have hf1 : (formN ⟨k, op, nn, vk, vn, vs, src, name, dist⟩ l.length != 0) = true := by simpa using hf0
        clear hfo hf0
        generalize formN ⟨k, op, nn, vk, vn, vs, src, name, dist⟩ l.length = fm at *
        go_wp2_with (first | (go_at_call 119; refine hfm.mono ?_; rintro e w2 ⟨rfl, hb2⟩; have hB2 := hB.next hb2; have hw2 := below_next hwr hb2; have hI2 := hI.below hb2; clear hB; have hB := hB2; clear hB2; obtain ⟨c0, c1, c2, c3, c4, c5, c6, c7, c8, c9, c10, c11, c12⟩ := hB.is; simp only at c0 c1 c2 c3 c4 c5 c6 c7 c8; have k0A := (hb2.cell (p := ⟨w.heap.size, 0, none⟩) (show w.heap.size < wr.heap.size by omega)).trans k0; have k1A := (hb2.cell (p := ⟨w.heap.size, 1, none⟩) (show w.heap.size < wr.heap.size by omega)).trans k1))
        go_ret2
        rw [hspec.out]
        exact ⟨rfl, hw2⟩
      · have k0 : wr.cell? ⟨w.heap.size, 0, none⟩ = some (.slice cad cs.length cc) := by simp [World.cell?, hK]
        have k1 : wr.cell? ⟨w.heap.size, 1, none⟩ = some (.slice pad ps.length pc) := by simp [World.cell?, hK]
        have hfm := Tryz.formOf ⟨1, op, nn, vk, vn, vs, src, name, dist⟩ ad l.length cap wr hxok hJr
        by_cases hf0 : formN ⟨1, op, nn, vk, vn, vs, src, name, dist⟩ l.length = 0
        · have hspec0 : nodeV cs ps ⟨1, op, nn, vk, vn, vs, src, name, dist⟩ acc = partV cs ps ⟨1, op, nn, vk, vn, vs, src, name, dist⟩ acc := by unfold nodeV; rw [hfo, if_pos (by simpa using hf0)]
          rw [hf0] at hfm
          have hspec : nodeV cs ps ⟨1, op, nn, vk, vn, vs, src, name, dist⟩ acc = (vk, 0) := hspec0.trans (by unfold partV; simp)
          replace hspec := Lib.hid (hfin.out.trans hspec)
          clear hfo hf0 hspec0
          go_wp2_with (first | (go_at_call 119; refine hfm.mono ?_; rintro e w2 ⟨rfl, hb2⟩; have hB2 := hB.next hb2; have hw2 := below_next hwr hb2; have hI2 := hI.below hb2; clear hB; have hB := hB2; clear hB2; obtain ⟨c0, c1, c2, c3, c4, c5, c6, c7, c8, c9, c10, c11, c12⟩ := hB.is; simp only at c0 c1 c2 c3 c4 c5 c6 c7 c8; have k0A := (hb2.cell (p := ⟨w.heap.size, 0, none⟩) (show w.heap.size < wr.heap.size by omega)).trans k0; have k1A := (hb2.cell (p := ⟨w.heap.size, 1, none⟩) (show w.heap.size < wr.heap.size by omega)).trans k1))
          go_ret2
          rw [hspec.out]
          exact ⟨rfl, hw2⟩
        · have hspec : nodeV cs ps ⟨1, op, nn, vk, vn, vs, src, name, dist⟩ acc = (0, formN ⟨1, op, nn, vk, vn, vs, src, name, dist⟩ l.length) := by unfold nodeV; rw [hfo, if_neg (by simpa using hf0)]
          replace hspec := Lib.hid (hfin.out.trans hspec)
          have hf1 : (formN ⟨1, op, nn, vk, vn, vs, src, name, dist⟩ l.length != 0) = true := by simpa using hf0
          clear hfo hf0
          generalize formN ⟨1, op, nn, vk, vn, vs, src, name, dist⟩ l.length = fm at *
          go_wp2_with (first | (go_at_call 119; refine hfm.mono ?_; rintro e w2 ⟨rfl, hb2⟩; have hB2 := hB.next hb2; have hw2 := below_next hwr hb2; have hI2 := hI.below hb2; clear hB; have hB := hB2; clear hB2; obtain ⟨c0, c1, c2, c3, c4, c5, c6, c7, c8, c9, c10, c11, c12⟩ := hB.is; simp only at c0 c1 c2 c3 c4 c5 c6 c7 c8; have k0A := (hb2.cell (p := ⟨w.heap.size, 0, none⟩) (show w.heap.size < wr.heap.size by omega)).trans k0; have k1A := (hb2.cell (p := ⟨w.heap.size, 1, none⟩) (show w.heap.size < wr.heap.size by omega)).trans k1))
          go_ret2
          rw [hspec.out]
          exact ⟨rfl, hw2⟩
      · have k0 : wr.cell? ⟨w.heap.size, 0, none⟩ = some (.slice cad cs.length cc) := by simp [World.cell?, hK]
        have k1 : wr.cell? ⟨w.heap.size, 1, none⟩ = some (.slice pad ps.length pc) := by simp [World.cell?, hK]
        have hfm := Tryz.formOf ⟨2, op, nn, vk, vn, vs, src, name, dist⟩ ad l.length cap wr hxok hJr
        by_cases hf0 : formN ⟨2, op, nn, vk, vn, vs, src, name, dist⟩ l.length = 0
        · have hspec0 : nodeV cs ps ⟨2, op, nn, vk, vn, vs, src, name, dist⟩ acc = partV cs ps ⟨2, op, nn, vk, vn, vs, src, name, dist⟩ acc := by unfold nodeV; rw [hfo, if_pos (by simpa using hf0)]
          rw [hf0] at hfm
          by_cases hin : inB nn 0 ((ps.length : Int) - 1) = true
          · obtain ⟨j, rfl⟩ : ∃ j : Nat, nn = (j : Int) := ⟨nn.toNat, by unfold inB at hin; simp at hin; omega⟩
            have hj : j < ps.length := by unfold inB at hin; simp at hin; omega
            have hj2 : (j : Int) < ps.length := by omega
            obtain ⟨p, o, rfl, hp, dd, _, _⟩ := (hps.below (hwr.mono hN)) j hj
            have hspec : nodeV cs ps ⟨2, op, (j : Int), vk, vn, vs, src, name, dist⟩ acc = (ps[j], 0) := hspec0.trans (by unfold partV; simp [hin, hj])
            generalize ps[j] = z at *
            replace hspec := Lib.hid (hfin.out.trans hspec)
            clear hfo hf0 hspec0
            go_wp2_with (first
              | (go_at_call 119; refine hfm.mono ?_; rintro e w2 ⟨rfl, hb2⟩; have hB2 := hB.next hb2; have hw2 := below_next hwr hb2; have hI2 := hI.below hb2; clear hB; have hB := hB2; clear hB2; obtain ⟨c0, c1, c2, c3, c4, c5, c6, c7, c8, c9, c10, c11, c12⟩ := hB.is; simp only at c0 c1 c2 c3 c4 c5 c6 c7 c8; have k0A := (hb2.cell (p := ⟨w.heap.size, 0, none⟩) (show w.heap.size < wr.heap.size by omega)).trans k0; have k1A := (hb2.cell (p := ⟨w.heap.size, 1, none⟩) (show w.heap.size < wr.heap.size by omega)).trans k1; have ddA := (hb2.cell (p := ⟨p, o + j, none⟩) (show p < wr.heap.size by omega)).trans dd)
              | (go_at_call 48; refine (Tryz.within _ _ _ _).mono ?_; rintro e w' ⟨rfl, rfl⟩))
            go_ret2
            rw [hspec.out]
            exact ⟨rfl, hw2⟩
          · have hin : inB nn 0 ((ps.length : Int) - 1) = false := by simpa using hin
            have hspec : nodeV cs ps ⟨2, op, nn, vk, vn, vs, src, name, dist⟩ acc = (0, 1) := hspec0.trans (by unfold partV; simp [hin])
            replace hspec := Lib.hid (hfin.out.trans hspec)
            clear hfo hf0 hspec0
            go_wp2_with (first
              | (go_at_call 119; refine hfm.mono ?_; rintro e w2 ⟨rfl, hb2⟩; have hB2 := hB.next hb2; have hw2 := below_next hwr hb2; have hI2 := hI.below hb2; clear hB; have hB := hB2; clear hB2; obtain ⟨c0, c1, c2, c3, c4, c5, c6, c7, c8, c9, c10, c11, c12⟩ := hB.is; simp only at c0 c1 c2 c3 c4 c5 c6 c7 c8; have k0A := (hb2.cell (p := ⟨w.heap.size, 0, none⟩) (show w.heap.size < wr.heap.size by omega)).trans k0; have k1A := (hb2.cell (p := ⟨w.heap.size, 1, none⟩) (show w.heap.size < wr.heap.size by omega)).trans k1)
              | (go_at_call 48; refine (Tryz.within _ _ _ _).mono ?_; rintro e w' ⟨rfl, rfl⟩))
            go_ret2
            rw [hspec.out]
            exact ⟨rfl, hw2⟩
        · have hspec : nodeV cs ps ⟨2, op, nn, vk, vn, vs, src, name, dist⟩ acc = (0, formN ⟨2, op, nn, vk, vn, vs, src, name, dist⟩ l.length) := by unfold nodeV; rw [hfo, if_neg (by simpa using hf0)]
          replace hspec := Lib.hid (hfin.out.trans hspec)
          have hf1 : (formN ⟨2, op, nn, vk, vn, vs, src, name, dist⟩ l.length != 0) = true := by simpa using hf0
          clear hfo hf0
          generalize formN ⟨2, op, nn, vk, vn, vs, src, name, dist⟩ l.length = fm at *
          go_wp2_with (first | (go_at_call 119; refine hfm.mono ?_; rintro e w2 ⟨rfl, hb2⟩; have hB2 := hB.next hb2; have hw2 := below_next hwr hb2; have hI2 := hI.below hb2; clear hB; have hB := hB2; clear hB2; obtain ⟨c0, c1, c2, c3, c4, c5, c6, c7, c8, c9, c10, c11, c12⟩ := hB.is; simp only at c0 c1 c2 c3 c4 c5 c6 c7 c8; have k0A := (hb2.cell (p := ⟨w.heap.size, 0, none⟩) (show w.heap.size < wr.heap.size by omega)).trans k0; have k1A := (hb2.cell (p := ⟨w.heap.size, 1, none⟩) (show w.heap.size < wr.heap.size by omega)).trans k1))
          go_ret2
          rw [hspec.out]
          exact ⟨rfl, hw2⟩
      · have k0 : wr.cell? ⟨w.heap.size, 0, none⟩ = some (.slice cad cs.length cc) := by simp [World.cell?, hK]
        have k1 : wr.cell? ⟨w.heap.size, 1, none⟩ = some (.slice pad ps.length pc) := by simp [World.cell?, hK]
        have hfm := Tryz.formOf ⟨3, op, nn, vk, vn, vs, src, name, dist⟩ ad l.length cap wr hxok hJr
        by_cases hf0 : formN ⟨3, op, nn, vk, vn, vs, src, name, dist⟩ l.length = 0
        · have hspec0 : nodeV cs ps ⟨3, op, nn, vk, vn, vs, src, name, dist⟩ acc = partV cs ps ⟨3, op, nn, vk, vn, vs, src, name, dist⟩ acc := by unfold nodeV; rw [hfo, if_pos (by simpa using hf0)]
          rw [hf0] at hfm
          rcases colAt_range src name cs 0 with hci | ⟨j, hci, _, hj⟩
          · have hspec : nodeV cs ps ⟨3, op, nn, vk, vn, vs, src, name, dist⟩ acc = (0, 5) := hspec0.trans (by unfold partV; simp [hci])
            replace hspec := Lib.hid (hfin.out.trans hspec)
            clear hfo hf0 hspec0
            have hco := fun (W : World) (h : Below w.heap.size w W) => Tryz.column cs cad cc ⟨3, op, nn, vk, vn, vs, src, name, dist⟩ (.slice ad l.length cap) N W (hcs.below (h.mono hN)) (Nat.le_trans hN h.size) hcl
            simp only [hci] at hco
            go_wp2_with (first
              | (go_at_call 119; refine hfm.mono ?_; rintro e w2 ⟨rfl, hb2⟩; have hB2 := hB.next hb2; have hw2 := below_next hwr hb2; have hI2 := hI.below hb2; clear hB; have hB := hB2; clear hB2; obtain ⟨c0, c1, c2, c3, c4, c5, c6, c7, c8, c9, c10, c11, c12⟩ := hB.is; simp only at c0 c1 c2 c3 c4 c5 c6 c7 c8; have k0A := (hb2.cell (p := ⟨w.heap.size, 0, none⟩) (show w.heap.size < wr.heap.size by omega)).trans k0; have k1A := (hb2.cell (p := ⟨w.heap.size, 1, none⟩) (show w.heap.size < wr.heap.size by omega)).trans k1)
              | (go_at_call 120; refine (hco _ hw2).mono ?_; rintro e w4 ⟨rfl, hb4⟩; have hw4 := below_next hw2 hb4))
            go_ret2
            rw [hspec.out]
            exact ⟨rfl, hw4⟩
          · have hj : j < cs.length := by omega
            obtain ⟨p, o, rfl, hp, dd0, dd1, dd⟩ := (hcs.below (hwr.mono hN)) j hj
            have hspec : nodeV cs ps ⟨3, op, nn, vk, vn, vs, src, name, dist⟩ acc = (cs[j].kind, 0) := hspec0.trans (by unfold partV; simp [hci, hj])
            have hco := fun (W : World) (h : Below w.heap.size w W) => Tryz.column cs (some ⟨p, o, none⟩) cc ⟨3, op, nn, vk, vn, vs, src, name, dist⟩ (.slice ad l.length cap) N W (hcs.below (h.mono hN)) (Nat.le_trans hN h.size) hcl
            simp only [hci] at hco
            have hj2 : (j : Int) < cs.length := by omega
            have hj3 : (0 : Int) ≤ (j : Int) := by omega
            generalize cs[j] = z at *
            replace hspec := Lib.hid (hfin.out.trans hspec)
            clear hfo hf0 hspec0 hci
            go_wp2_with (first
              | (go_at_call 119; refine hfm.mono ?_; rintro e w2 ⟨rfl, hb2⟩; have hB2 := hB.next hb2; have hw2 := below_next hwr hb2; have hI2 := hI.below hb2; clear hB; have hB := hB2; clear hB2; obtain ⟨c0, c1, c2, c3, c4, c5, c6, c7, c8, c9, c10, c11, c12⟩ := hB.is; simp only at c0 c1 c2 c3 c4 c5 c6 c7 c8; have k0A := (hb2.cell (p := ⟨w.heap.size, 0, none⟩) (show w.heap.size < wr.heap.size by omega)).trans k0; have k1A := (hb2.cell (p := ⟨w.heap.size, 1, none⟩) (show w.heap.size < wr.heap.size by omega)).trans k1)
              | (go_at_call 120; refine (hco _ hw2).mono ?_; rintro e w4 ⟨rfl, hb4⟩; have hw4 := below_next hw2 hb4; have hs2 := hb2.size; have k0B := (hb4.cell (p := ⟨w.heap.size, 0, none⟩) (show w.heap.size < w2.heap.size by omega)).trans k0A; have ddB := (hb4.cell (p := ⟨p, o + j * 3 + 2, none⟩) (show p < w2.heap.size by omega)).trans ((hb2.cell (p := ⟨p, o + j * 3 + 2, none⟩) (show p < wr.heap.size by omega)).trans dd)))
            go_ret2
            rw [hspec.out]
            exact ⟨rfl, hw4⟩
        · have hspec : nodeV cs ps ⟨3, op, nn, vk, vn, vs, src, name, dist⟩ acc = (0, formN ⟨3, op, nn, vk, vn, vs, src, name, dist⟩ l.length) := by unfold nodeV; rw [hfo, if_neg (by simpa using hf0)]
          replace hspec := Lib.hid (hfin.out.trans hspec)
          have hf1 : (formN ⟨3, op, nn, vk, vn, vs, src, name, dist⟩ l.length != 0) = true := by simpa using hf0
          clear hfo hf0
          generalize formN ⟨3, op, nn, vk, vn, vs, src, name, dist⟩ l.length = fm at *
          go_wp2_with (first | (go_at_call 119; refine hfm.mono ?_; rintro e w2 ⟨rfl, hb2⟩; have hB2 := hB.next hb2; have hw2 := below_next hwr hb2; have hI2 := hI.below hb2; clear hB; have hB := hB2; clear hB2; obtain ⟨c0, c1, c2, c3, c4, c5, c6, c7, c8, c9, c10, c11, c12⟩ := hB.is; simp only at c0 c1 c2 c3 c4 c5 c6 c7 c8; have k0A := (hb2.cell (p := ⟨w.heap.size, 0, none⟩) (show w.heap.size < wr.heap.size by omega)).trans k0; have k1A := (hb2.cell (p := ⟨w.heap.size, 1, none⟩) (show w.heap.size < wr.heap.size by omega)).trans k1))
          go_ret2
          rw [hspec.out]
          exact ⟨rfl, hw2⟩
      · have k0 : wr.cell? ⟨w.heap.size, 0, none⟩ = some (.slice cad cs.length cc) := by simp [World.cell?, hK]
        have k1 : wr.cell? ⟨w.heap.size, 1, none⟩ = some (.slice pad ps.length pc) := by simp [World.cell?, hK]
        have hfm := Tryz.formOf ⟨4, op, nn, vk, vn, vs, src, name, dist⟩ ad l.length cap wr hxok hJr
        by_cases hf0 : formN ⟨4, op, nn, vk, vn, vs, src, name, dist⟩ l.length = 0
        · have hspec0 : nodeV cs ps ⟨4, op, nn, vk, vn, vs, src, name, dist⟩ acc = partV cs ps ⟨4, op, nn, vk, vn, vs, src, name, dist⟩ acc := by unfold nodeV; rw [hfo, if_pos (by simpa using hf0)]
          rw [hf0] at hfm
          obtain ⟨hop, hra4⟩ := formN_four hf0
          by_cases hrn : rightNB op nn = true
          · have hspec : nodeV cs ps ⟨4, op, nn, vk, vn, vs, src, name, dist⟩ acc = if (operN op nn acc).2 then ((operN op nn acc).1, 0) else (0, 8) := hspec0.trans (by unfold partV; simp [hrn])
            have hoc := fun (W : World) (hb : Below wr.heap.size wr W) => Tryz.operated ⟨4, op, nn, vk, vn, vs, src, name, dist⟩ (.slice ad l.length cap) acc ad' cap' wr.heap.size W (hI.below hb) hb.size hop (by rw [hlen2]; exact hra4) (by omega)
            simp only [hlen2] at hoc
            generalize (operN op nn acc).1 = z at *
            generalize (operN op nn acc).2 = u at *
            clear hfo hf0 hspec0
            cases u with
            | true =>
              replace hspec := Lib.hid (hfin.out.trans hspec)
              go_wp2_with (first
                | (go_at_call 119; refine hfm.mono ?_; rintro e w2 ⟨rfl, hb2⟩; have hB2 := hB.next hb2; have hw2 := below_next hwr hb2; have hI2 := hI.below hb2; clear hB; have hB := hB2; clear hB2; obtain ⟨c0, c1, c2, c3, c4, c5, c6, c7, c8, c9, c10, c11, c12⟩ := hB.is; simp only at c0 c1 c2 c3 c4 c5 c6 c7 c8; have k0A := (hb2.cell (p := ⟨w.heap.size, 0, none⟩) (show w.heap.size < wr.heap.size by omega)).trans k0; have k1A := (hb2.cell (p := ⟨w.heap.size, 1, none⟩) (show w.heap.size < wr.heap.size by omega)).trans k1)
                | (go_at_call 121; refine (Tryz.rightN _ _ _).mono ?_; rintro e w' ⟨rfl, rfl⟩)
                | (go_at_call 122; refine (hoc _ hb2).mono ?_; rintro e w4 ⟨rfl, hb4⟩; have hw4 := below_next hw2 hb4))
              go_ret2
              rw [hspec.out]
              exact ⟨rfl, hw4⟩
            | false =>
              replace hspec := Lib.hid (hfin.out.trans hspec)
              go_wp2_with (first
                | (go_at_call 119; refine hfm.mono ?_; rintro e w2 ⟨rfl, hb2⟩; have hB2 := hB.next hb2; have hw2 := below_next hwr hb2; have hI2 := hI.below hb2; clear hB; have hB := hB2; clear hB2; obtain ⟨c0, c1, c2, c3, c4, c5, c6, c7, c8, c9, c10, c11, c12⟩ := hB.is; simp only at c0 c1 c2 c3 c4 c5 c6 c7 c8; have k0A := (hb2.cell (p := ⟨w.heap.size, 0, none⟩) (show w.heap.size < wr.heap.size by omega)).trans k0; have k1A := (hb2.cell (p := ⟨w.heap.size, 1, none⟩) (show w.heap.size < wr.heap.size by omega)).trans k1)
                | (go_at_call 121; refine (Tryz.rightN _ _ _).mono ?_; rintro e w' ⟨rfl, rfl⟩)
                | (go_at_call 122; refine (hoc _ hb2).mono ?_; rintro e w4 ⟨rfl, hb4⟩; have hw4 := below_next hw2 hb4))
              go_ret2
              rw [hspec.out]
              exact ⟨rfl, hw4⟩
          · have hrn : rightNB op nn = false := by simpa using hrn
            have hspec : nodeV cs ps ⟨4, op, nn, vk, vn, vs, src, name, dist⟩ acc = (0, 1) := hspec0.trans (by unfold partV; simp [hrn])
            replace hspec := Lib.hid (hfin.out.trans hspec)
            clear hfo hf0 hspec0
            go_wp2_with (first
              | (go_at_call 119; refine hfm.mono ?_; rintro e w2 ⟨rfl, hb2⟩; have hB2 := hB.next hb2; have hw2 := below_next hwr hb2; have hI2 := hI.below hb2; clear hB; have hB := hB2; clear hB2; obtain ⟨c0, c1, c2, c3, c4, c5, c6, c7, c8, c9, c10, c11, c12⟩ := hB.is; simp only at c0 c1 c2 c3 c4 c5 c6 c7 c8; have k0A := (hb2.cell (p := ⟨w.heap.size, 0, none⟩) (show w.heap.size < wr.heap.size by omega)).trans k0; have k1A := (hb2.cell (p := ⟨w.heap.size, 1, none⟩) (show w.heap.size < wr.heap.size by omega)).trans k1)
              | (go_at_call 121; refine (Tryz.rightN _ _ _).mono ?_; rintro e w' ⟨rfl, rfl⟩))
            go_ret2
            rw [hspec.out]
            exact ⟨rfl, hw2⟩
        · have hspec : nodeV cs ps ⟨4, op, nn, vk, vn, vs, src, name, dist⟩ acc = (0, formN ⟨4, op, nn, vk, vn, vs, src, name, dist⟩ l.length) := by unfold nodeV; rw [hfo, if_neg (by simpa using hf0)]
          replace hspec := Lib.hid (hfin.out.trans hspec)
          have hf1 : (formN ⟨4, op, nn, vk, vn, vs, src, name, dist⟩ l.length != 0) = true := by simpa using hf0
          clear hfo hf0
          generalize formN ⟨4, op, nn, vk, vn, vs, src, name, dist⟩ l.length = fm at *
          go_wp2_with (first | (go_at_call 119; refine hfm.mono ?_; rintro e w2 ⟨rfl, hb2⟩; have hB2 := hB.next hb2; have hw2 := below_next hwr hb2; have hI2 := hI.below hb2; clear hB; have hB := hB2; clear hB2; obtain ⟨c0, c1, c2, c3, c4, c5, c6, c7, c8, c9, c10, c11, c12⟩ := hB.is; simp only at c0 c1 c2 c3 c4 c5 c6 c7 c8; have k0A := (hb2.cell (p := ⟨w.heap.size, 0, none⟩) (show w.heap.size < wr.heap.size by omega)).trans k0; have k1A := (hb2.cell (p := ⟨w.heap.size, 1, none⟩) (show w.heap.size < wr.heap.size by omega)).trans k1))
          go_ret2
          rw [hspec.out]
          exact ⟨rfl, hw2⟩
      · have k0 : wr.cell? ⟨w.heap.size, 0, none⟩ = some (.slice cad cs.length cc) := by simp [World.cell?, hK]
        have k1 : wr.cell? ⟨w.heap.size, 1, none⟩ = some (.slice pad ps.length pc) := by simp [World.cell?, hK]
        have hfm := Tryz.formOf ⟨5, op, nn, vk, vn, vs, src, name, dist⟩ ad l.length cap wr hxok hJr
        by_cases hf0 : formN ⟨5, op, nn, vk, vn, vs, src, name, dist⟩ l.length = 0
        · have hspec0 : nodeV cs ps ⟨5, op, nn, vk, vn, vs, src, name, dist⟩ acc = partV cs ps ⟨5, op, nn, vk, vn, vs, src, name, dist⟩ acc := by unfold nodeV; rw [hfo, if_pos (by simpa using hf0)]
          rw [hf0] at hfm
          have hspec : nodeV cs ps ⟨5, op, nn, vk, vn, vs, src, name, dist⟩ acc = if (caseN acc).2 then ((caseN acc).1, 0) else (0, 8) := hspec0.trans (by unfold partV; simp)
          have hoc := fun (W : World) (hb : Below wr.heap.size wr W) => Tryz.cases acc ad' cap' wr.heap.size W (hI.below hb) hb.size (by have := formN_five hf0; omega) (by omega) (by omega) hra
          simp only [hlen2] at hoc
          generalize (caseN acc).1 = z at *
          generalize (caseN acc).2 = u at *
          clear hfo hf0 hspec0
          cases u with
          | true =>
            replace hspec := Lib.hid (hfin.out.trans hspec)
            go_wp2_with (first
              | (go_at_call 119; refine hfm.mono ?_; rintro e w2 ⟨rfl, hb2⟩; have hB2 := hB.next hb2; have hw2 := below_next hwr hb2; have hI2 := hI.below hb2; clear hB; have hB := hB2; clear hB2; obtain ⟨c0, c1, c2, c3, c4, c5, c6, c7, c8, c9, c10, c11, c12⟩ := hB.is; simp only at c0 c1 c2 c3 c4 c5 c6 c7 c8; have k0A := (hb2.cell (p := ⟨w.heap.size, 0, none⟩) (show w.heap.size < wr.heap.size by omega)).trans k0; have k1A := (hb2.cell (p := ⟨w.heap.size, 1, none⟩) (show w.heap.size < wr.heap.size by omega)).trans k1)
              | (go_at_call 123; refine (hoc _ hb2).mono ?_; rintro e w4 ⟨rfl, hb4⟩; have hw4 := below_next hw2 hb4))
            go_ret2
            rw [hspec.out]
            exact ⟨rfl, hw4⟩
          | false =>
            replace hspec := Lib.hid (hfin.out.trans hspec)
            go_wp2_with (first
              | (go_at_call 119; refine hfm.mono ?_; rintro e w2 ⟨rfl, hb2⟩; have hB2 := hB.next hb2; have hw2 := below_next hwr hb2; have hI2 := hI.below hb2; clear hB; have hB := hB2; clear hB2; obtain ⟨c0, c1, c2, c3, c4, c5, c6, c7, c8, c9, c10, c11, c12⟩ := hB.is; simp only at c0 c1 c2 c3 c4 c5 c6 c7 c8; have k0A := (hb2.cell (p := ⟨w.heap.size, 0, none⟩) (show w.heap.size < wr.heap.size by omega)).trans k0; have k1A := (hb2.cell (p := ⟨w.heap.size, 1, none⟩) (show w.heap.size < wr.heap.size by omega)).trans k1)
              | (go_at_call 123; refine (hoc _ hb2).mono ?_; rintro e w4 ⟨rfl, hb4⟩; have hw4 := below_next hw2 hb4))
            go_ret2
            rw [hspec.out]
            exact ⟨rfl, hw4⟩
        · have hspec : nodeV cs ps ⟨5, op, nn, vk, vn, vs, src, name, dist⟩ acc = (0, formN ⟨5, op, nn, vk, vn, vs, src, name, dist⟩ l.length) := by unfold nodeV; rw [hfo, if_neg (by simpa using hf0)]
          replace hspec := Lib.hid (hfin.out.trans hspec)
          have hf1 : (formN ⟨5, op, nn, vk, vn, vs, src, name, dist⟩ l.length != 0) = true := by simpa using hf0
          clear hfo hf0
          generalize formN ⟨5, op, nn, vk, vn, vs, src, name, dist⟩ l.length = fm at *
          go_wp2_with (first | (go_at_call 119; refine hfm.mono ?_; rintro e w2 ⟨rfl, hb2⟩; have hB2 := hB.next hb2; have hw2 := below_next hwr hb2; have hI2 := hI.below hb2; clear hB; have hB := hB2; clear hB2; obtain ⟨c0, c1, c2, c3, c4, c5, c6, c7, c8, c9, c10, c11, c12⟩ := hB.is; simp only at c0 c1 c2 c3 c4 c5 c6 c7 c8; have k0A := (hb2.cell (p := ⟨w.heap.size, 0, none⟩) (show w.heap.size < wr.heap.size by omega)).trans k0; have k1A := (hb2.cell (p := ⟨w.heap.size, 1, none⟩) (show w.heap.size < wr.heap.size by omega)).trans k1))
          go_ret2
          rw [hspec.out]
          exact ⟨rfl, hw2⟩
      · have k0 : wr.cell? ⟨w.heap.size, 0, none⟩ = some (.slice cad cs.length cc) := by simp [World.cell?, hK]
        have k1 : wr.cell? ⟨w.heap.size, 1, none⟩ = some (.slice pad ps.length pc) := by simp [World.cell?, hK]
        have hfm := Tryz.formOf ⟨6, op, nn, vk, vn, vs, src, name, dist⟩ ad l.length cap wr hxok hJr
        by_cases hf0 : formN ⟨6, op, nn, vk, vn, vs, src, name, dist⟩ l.length = 0
        · have hspec0 : nodeV cs ps ⟨6, op, nn, vk, vn, vs, src, name, dist⟩ acc = partV cs ps ⟨6, op, nn, vk, vn, vs, src, name, dist⟩ acc := by unfold nodeV; rw [hfo, if_pos (by simpa using hf0)]
          rw [hf0] at hfm
          have hspec : nodeV cs ps ⟨6, op, nn, vk, vn, vs, src, name, dist⟩ acc = if (commonF 0 acc).2 then (1, 0) else (0, 8) := hspec0.trans (by unfold partV; simp)
          have hoc := fun (W : World) (hb : Below wr.heap.size wr W) => (Tryz.common acc ad' cap' W wr.heap.size (hI.below hb) (by omega))
          simp only [hlen2] at hoc
          generalize (commonF 0 acc).1 = z at *
          generalize (commonF 0 acc).2 = u at *
          clear hfo hf0 hspec0
          cases u with
          | true =>
            replace hspec := Lib.hid (hfin.out.trans hspec)
            go_wp2_with (first
              | (go_at_call 119; refine hfm.mono ?_; rintro e w2 ⟨rfl, hb2⟩; have hB2 := hB.next hb2; have hw2 := below_next hwr hb2; have hI2 := hI.below hb2; clear hB; have hB := hB2; clear hB2; obtain ⟨c0, c1, c2, c3, c4, c5, c6, c7, c8, c9, c10, c11, c12⟩ := hB.is; simp only at c0 c1 c2 c3 c4 c5 c6 c7 c8; have k0A := (hb2.cell (p := ⟨w.heap.size, 0, none⟩) (show w.heap.size < wr.heap.size by omega)).trans k0; have k1A := (hb2.cell (p := ⟨w.heap.size, 1, none⟩) (show w.heap.size < wr.heap.size by omega)).trans k1)
              | (go_at_call 124; refine (hoc _ hb2).mono ?_; rintro e w4 ⟨rfl, rfl⟩))
            go_ret2
            rw [hspec.out]
            exact ⟨rfl, hw2⟩
          | false =>
            replace hspec := Lib.hid (hfin.out.trans hspec)
            go_wp2_with (first
              | (go_at_call 119; refine hfm.mono ?_; rintro e w2 ⟨rfl, hb2⟩; have hB2 := hB.next hb2; have hw2 := below_next hwr hb2; have hI2 := hI.below hb2; clear hB; have hB := hB2; clear hB2; obtain ⟨c0, c1, c2, c3, c4, c5, c6, c7, c8, c9, c10, c11, c12⟩ := hB.is; simp only at c0 c1 c2 c3 c4 c5 c6 c7 c8; have k0A := (hb2.cell (p := ⟨w.heap.size, 0, none⟩) (show w.heap.size < wr.heap.size by omega)).trans k0; have k1A := (hb2.cell (p := ⟨w.heap.size, 1, none⟩) (show w.heap.size < wr.heap.size by omega)).trans k1)
              | (go_at_call 124; refine (hoc _ hb2).mono ?_; rintro e w4 ⟨rfl, rfl⟩))
            go_ret2
            rw [hspec.out]
            exact ⟨rfl, hw2⟩
        · have hspec : nodeV cs ps ⟨6, op, nn, vk, vn, vs, src, name, dist⟩ acc = (0, formN ⟨6, op, nn, vk, vn, vs, src, name, dist⟩ l.length) := by unfold nodeV; rw [hfo, if_neg (by simpa using hf0)]
          replace hspec := Lib.hid (hfin.out.trans hspec)
          have hf1 : (formN ⟨6, op, nn, vk, vn, vs, src, name, dist⟩ l.length != 0) = true := by simpa using hf0
          clear hfo hf0
          generalize formN ⟨6, op, nn, vk, vn, vs, src, name, dist⟩ l.length = fm at *
          go_wp2_with (first | (go_at_call 119; refine hfm.mono ?_; rintro e w2 ⟨rfl, hb2⟩; have hB2 := hB.next hb2; have hw2 := below_next hwr hb2; have hI2 := hI.below hb2; clear hB; have hB := hB2; clear hB2; obtain ⟨c0, c1, c2, c3, c4, c5, c6, c7, c8, c9, c10, c11, c12⟩ := hB.is; simp only at c0 c1 c2 c3 c4 c5 c6 c7 c8; have k0A := (hb2.cell (p := ⟨w.heap.size, 0, none⟩) (show w.heap.size < wr.heap.size by omega)).trans k0; have k1A := (hb2.cell (p := ⟨w.heap.size, 1, none⟩) (show w.heap.size < wr.heap.size by omega)).trans k1))
          go_ret2
          rw [hspec.out]
          exact ⟨rfl, hw2⟩

theorem Tryz.kind (cs : List Col) (ps : List Int) (cad pad : Option Addr) (cc pc N : Nat) (hcl : cs.length ≤ 1000000) (hpl : ps.length ≤ 1000000) (hpk : ∀ q ∈ ps, 0 ≤ q ∧ q ≤ 4) (hck : ∀ q ∈ cs, 0 ≤ q.kind ∧ q.kind ≤ 4) : ∀ d, KindC cs ps cad pad cc pc N d
  | 0 => fun _ _ _ _ h => h.elim
  | d + 1 => fun e ad cap w h hcs hps hN hJ => by
    have ih := Tryz.kind cs ps cad pad cc pc N hcl hpl hpk hck d
    obtain ⟨⟨k, op, nn, vk, vn, vs, src, name, dist⟩, l⟩ := e
    obtain ⟨hok, h2, h3, h4⟩ := h
    have hA : NodeArgs d w N ad cap l := ⟨h2, h3, h4⟩
    exact Tryz.kindA k op nn vk vn vs src name dist l ad cap d N cs ps cad pad cc pc w ih hA hok hcs hps hN hcl hpl hpk hck hJ
end Go.Proofs
