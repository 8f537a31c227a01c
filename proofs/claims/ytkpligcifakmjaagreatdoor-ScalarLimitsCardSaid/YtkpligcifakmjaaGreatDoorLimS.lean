/- ScalarLimits: the document's package tells the text of a tree of the law. The condition: the library's table of white space. -/
import Derived.Test.YtkpligcifakmjaaGreatDoorLimW
import Derived.Test.YtkpligcifakmjaaGreatDoorScalF
import Derived.Lib.Join
namespace Go.Proofs
open Go.RowKit Go.Ke

theorem ba_append (a b : List UInt8) : (⟨a.toArray⟩ : ByteArray) ++ ⟨b.toArray⟩ = ⟨(a ++ b).toArray⟩ := by
  apply ByteArray.ext
  rw [ByteArray.data_append]
  simp

def strs (l : List Ex) (k : Nat) : List Value := (l.take k).map fun a => Value.string ⟨(textT a).toArray⟩

theorem strs_succ {l : List Ex} {k : Nat} (h : k < l.length) : strs l (k + 1) = strs l k ++ [.string ⟨(textT l[k]).toArray⟩] := by
  unfold strs
  rw [List.take_succ_eq_append_getElem h, List.map_append]
  rfl

theorem strs_all {l : List Ex} : strs l l.length = l.map fun a => Value.string ⟨(textT a).toArray⟩ := by unfold strs; rw [List.take_length]

theorem restT_join (l : List Ex) : restT l = Lib.joinTail [44] (l.map textT) := by
  induction l with
  | nil => rfl
  | cons a l ih => simp only [restT, ih, Lib.joinTail, List.map_cons, List.flatten_cons]; rfl

theorem joinT_join (l : List Ex) : joinT l = Lib.join (l.map textT) [44] := by
  cases l with
  | nil => rfl
  | cons a l => rw [List.map_cons, Lib.join_cons, ← restT_join]; rfl

theorem restT_mem {l : List Ex} {k : Nat} (h : k < l.length) : (textT l[k]).length ≤ (restT l).length := by
  induction l generalizing k with
  | nil => simp at h
  | cons a l ih =>
    unfold restT
    simp only [List.length_cons, List.length_append]
    cases k with
    | zero => simp only [List.getElem_cons_zero]; omega
    | succ k => have := ih (k := k) (by simpa using h); simp only [List.getElem_cons_succ]; omega

theorem joinT_mem {l : List Ex} {k : Nat} (h : k < l.length) : (textT l[k]).length ≤ (joinT l).length := by
  cases l with
  | nil => simp at h
  | cons a l =>
    unfold joinT
    simp only [List.length_append]
    cases k with
    | zero => simp only [List.getElem_cons_zero]; omega
    | succ k => have := restT_mem (l := l) (k := k) (by simpa using h); simp only [List.getElem_cons_succ]; omega

theorem Tryz.info9' : (Tryz.prog.info? 9).map (fun i => (i.zero, i.size, i.bytes)) = some (some (.string ⟨#[]⟩), 1, 16) := by kernel_rfl

theorem append_str1 {P : Program} {ops : Array Oper} {rest : List Oper} {o : Oper} {a : Act} {Q : Exit → Act → World → Prop} (hgd : o.guard = none) (s x : Operand) (t : TypeId)
    (ho : o.op = .call { callee := .builtin .append, args := #[s, x], argTypes := #[t, t] })
    (B : Nat) (e : TypeId) (i : TypeInfo) (ht : P.underlying t = some (.slice e)) (hi : P.info? e = some i) (hz : i.zero = some (.string ⟨#[]⟩)) (hsize : i.size = 1) (hby : i.bytes = 16)
    (v : Value) (n : Nat) (xs : List Value) (W0 w0 : World) (hb : Own B e 1 v n xs W0 w0) (c : ByteArray) (hlen : n + 1 ≤ 1000000000) (hs : a.eval s = v)
    (hx : ∃ G, a.eval x = .slice (some ⟨G, 0, none⟩) 1 1 ∧ w0.heap.size = G)
    (h : ∀ v' w', Own B e 1 v' (n + 1) (xs ++ [.string c]) W0 w' → wpList P ops Q rest (a.put o.dst v') w') : wpList P ops Q (o :: rest) a (w0.alloc (.cells #[.string c] e)) := by
  obtain ⟨G, hx, rfl⟩ := hx
  have hb' := hb.alloc (.cells #[.string c] e)
  refine wpList_append_own _ hgd s x t ho B e i (.string ⟨#[]⟩) 1 16 ht hi hz hsize hby rfl (by decide) v n xs hs hb'.1 ⟨w0.heap.size, 0, none⟩ 1 1 [.string c] hx rfl ?_ ?_ (by unfold maxLen; omega) (by omega) hb'.2.2 ?_
  · intro j y hj
    match j, hj with
    | 0, hj => simp at hj; subst hj; simp [Addr.add]
    | (j + 1), hj => simp at hj
  · intro y hy; simp at hy; subst hy; rfl
  · intro v' w' ho' hg _
    exact h v' w' (hb'.grown ho' hg)

/-- The texts of the parts are joined. -/
theorem Tryz.joined {B : Nat} {v : Value} {l : List Ex} {W0 w : World} (hO : Own B 9 1 v l.length (strs l l.length) W0 w) (hl : l.length ≤ 1000000) (hlen : (joinT l).length ≤ 65536) :
    Calls Tryz.prog 134 #[v, .string ⟨#[44]⟩] w fun r w' => r = .returned (.string ⟨(joinT l).toArray⟩) ∧ Below w.heap.size w w' := by
  rw [strs_all] at hO
  obtain ⟨ao, cap, rfl⟩ := own_slice hO.1
  by_cases h0 : l.length = 0
  · have : l = [] := List.length_eq_zero_iff.1 h0
    subst this
    refine (Tryz.strings_Join_none ao cap ⟨#[44]⟩ w).mono ?_
    rintro r w' ⟨rfl, rfl⟩
    exact ⟨rfl, Below.refl _ _⟩
  · rcases hO.1.2 with ⟨_, h1⟩ | ⟨g, cap', cur, hv, hb, hg, hc, _⟩
    · omega
    · obtain ⟨rfl, _, rfl⟩ : ao = some ⟨g, 0, none⟩ ∧ l.length = l.length ∧ cap = cap' := by injection hv with a b c; exact ⟨a, b, c⟩
      have hcell := hO.1.cells (g := g) rfl
      have hj := Tryz.strings_Join g 0 cap (l.map fun a => (⟨(textT a).toArray⟩ : ByteArray)) ⟨#[44]⟩ w (by
        intro j x hx
        have h2 := hcell j (.string x) (by
          rw [List.getElem?_map] at hx ⊢
          cases hq : l[j]? with
          | none => rw [hq] at hx; simp at hx
          | some a => rw [hq] at hx; simp at hx ⊢; exact hx)
        have : (⟨g, 0, none⟩ : Addr).add j = ⟨g, 0 + j, none⟩ := by unfold Addr.add; split <;> simp_all
        rw [this] at h2
        exact h2) (Array.getElem?_eq_some_iff.1 hg).1 (by rw [List.length_map]; omega) (by rw [List.length_map]; omega)
      rw [List.length_map, List.map_map] at hj
      have he : (l.map ((fun x => x.data.toList) ∘ fun a => (⟨(textT a).toArray⟩ : ByteArray))) = l.map textT := by
        apply List.map_congr_left
        intro a _
        rfl
      rw [he] at hj
      have hs : (⟨#[44]⟩ : ByteArray).data.toList = [44] := rfl
      rw [hs, ← joinT_join] at hj
      exact hj (by omega)

theorem shown_one : runC 135 [valV 2 1 ⟨#[]⟩] = some (.string ⟨#[49]⟩) := by kernel_rfl
theorem shown_nul : runC 135 [valV 0 0 ⟨#[]⟩] = some (.string ⟨#[110, 117, 108, 108]⟩) := by kernel_rfl
theorem shown_x (v : Value) : sumX 135 [v] St.empty = none := rfl
theorem Tryz.shown1 (w : World) (hJ : spaceTab w.heap.size w) : Calls Tryz.prog 135 #[valV 2 1 ⟨#[]⟩] w fun e w' => e = .returned (.string ⟨#[49]⟩) ∧ Below w.heap.size w w' := pure_call (shown_x _) rfl shown_one w hJ
theorem Tryz.shown0 (w : World) (hJ : spaceTab w.heap.size w) : Calls Tryz.prog 135 #[valV 0 0 ⟨#[]⟩] w fun e w' => e = .returned (.string ⟨#[110, 117, 108, 108]⟩) ∧ Below w.heap.size w w' := pure_call (shown_x _) rfl shown_nul w hJ

set_option maxRecDepth 20000 in
theorem Tryz.opNames (w : World) : Calls Tryz.prog 136 #[] w fun e w' => ∃ q, e = .returned (.slice (some ⟨q, 0, none⟩) 28 28) ∧ w'.cell? ⟨q, 17, none⟩ = some (.string ⟨#[110, 101, 103]⟩) ∧ Below w.heap.size w w' := by
  go_enter Tryz.func136, Tryz.ntmps136
  go_wp2_with fail
  go_ret
  refine ⟨_, rfl, ?_, (Below.refl _ _).alloc (Nat.le_refl _) _⟩
  rw [Lib.cell_of_heap (heap_alloc_new _ _)]
  rfl

def STextC (d : Nat) : Prop := ∀ (e : Ex) (ad : Option Addr) (cap N : Nat) (w : World), ExIs d w N ad cap e → Lim e → N ≤ w.heap.size → (textT e).length ≤ 65536 → spaceTab w.heap.size w →
    Calls Tryz.prog 90 #[e.v ad cap] w fun r w' => r = .returned (.string ⟨(textT e).toArray⟩) ∧ Below w.heap.size w w'

set_option maxRecDepth 20000 in
set_option maxHeartbeats 2000000 in
theorem Tryz.stextA {d : Nat} (ihd : STextC d) (x : Node) (l : List Ex) (hnode : LimX x l.length) (hparts : ∀ i (hi : i < l.length), Lim l[i]) (ad : Option Addr) (cap N : Nat) (w : World) (hA : NodeArgs d w N ad cap l) (hN : N ≤ w.heap.size) (hlen : (joinT l).length ≤ 65536) (hJ : spaceTab w.heap.size w) :
    Calls Tryz.prog 90 #[x.v (.slice ad l.length cap)] w fun r w' => r = .returned (.string ⟨(textT (.mk x l)).toArray⟩) ∧ Below w.heap.size w w' := by
  obtain ⟨i9, hi9, hz9, hs9, hb9⟩ := info_parts Tryz.info9'
  obtain ⟨hl1, hl2, hargs⟩ := hA
  have hw0 : Below w.heap.size w (w.alloc (.cells (x.cells (.slice ad l.length cap)) 57)) := (Below.refl _ _).alloc (Nat.le_refl _) _
  have hB0 : Box (w.alloc (.cells (x.cells (.slice ad l.length cap)) 57)) w.heap.size x (.slice ad l.length cap) := Box.new _ _ _
  have hs0 := ex_alloc_size w (.cells (x.cells (.slice ad l.length cap)) 57)
  unfold Node.v
  go_enter Tryz.func90, Tryz.ntmps90
  go_upto_region 1 with fail
  generalize w.alloc (.cells (x.cells (.slice ad l.length cap)) 57) = W1 at hB0 hw0 hs0 ⊢
  replace hs0 : w.heap.size < W1.heap.size := by omega
  have c9 := hB0.is.c9
  have hO0 : Own W1.heap.size 9 1 (.slice none 0 0) 0 (strs l 0) W1 W1 := ⟨by simpa [strs] using World.ownsRow_nil W1 W1.heap.size 9 1, Below.refl _ _, Nat.le_refl _⟩
  go_wp2_with fail
  clear c9
  go_loopw [3, 11] (fun v i wr => ∃ k : Nat, i = .int .i64 k ∧ k ≤ l.length ∧ Own W1.heap.size 9 1 v k (strs l k) W1 wr) (fun _ i _ => l.length - (intOf i).toNat)
  case atStart => exact ⟨0, rfl, Nat.zero_le _, hO0⟩
  case round =>
    obtain ⟨k, rfl, hk, hO⟩ := hrel
    clear hO0
    have hwr := below_next hw0 hO.2.1
    by_cases hlt : k < l.length
    · obtain ⟨pa, po, bd, bc, rfl, hpa, hca, hex⟩ := hargs k hlt
      obtain ⟨d0, d1, d2, d3, d4, d5, d6, d7, d8, d9, d10, d11, d12⟩ := hca.of (hwr.block pa (by omega))
      have hs2 := hwr.size
      have ha2 : Below w.heap.size w (wr.alloc (.cells (l[k].node.cells (.slice bd l[k].args.length bc)) 57)) := hwr.alloc hs2 _
      have hOa := hO.alloc (.cells (l[k].node.cells (.slice bd l[k].args.length bc)) 57)
      have ih := ihd l[k] bd bc N (wr.alloc (.cells (l[k].node.cells (.slice bd l[k].args.length bc)) 57)) (hex.below (ha2.mono hN)) (hparts k hlt) (by rw [ex_alloc_size]; omega) (Nat.le_trans (joinT_mem hlt) hlen) (Lib.tabBelow_of_tabIs (hJ.on ha2).here)
      have hsu := Lib.hid (strs_succ hlt)
      unfold Ex.v Node.v at ih
      generalize (⟨(textT l[k]).toArray⟩ : ByteArray) = tx at *
      generalize l[k].node = y at *
      generalize l[k].args.length = n at *
      clear hex hO
      go_wp2_with fail
      refine Calls.mono ih ?_
      rintro r w3 ⟨rfl, hb3⟩
      have hO3 := hOa.call hb3
      clear ih hOa ha2
      go_wp2_with (at_builtin; refine append_str1 rfl (.tmp 15) (.tmp 18) 93 rfl W1.heap.size 9 i9 Tryz.underlying93 hi9 hz9 hs9 hb9 _ k (strs l k) W1 w3 hO3 tx ?c1 rfl ⟨_, rfl, rfl⟩ ?_)
      case c1 => omega
      intro v' w4 hO4
      rw [← hsu.out] at hO4
      obtain ⟨ao, cp, rfl⟩ := own_slice hO4.1
      go_wp2_with fail
      go_roundw
      case rel => exact ⟨k + 1, by go_num, by omega, hO4⟩
      case measure => simp [intOf]; omega
    · have hke : k = l.length := by omega
      subst hke
      have hjn := Tryz.joined hO hl1 hlen
      have hB := hB0.next hO.2.1
      clear hargs hparts ihd hB0
      have hJr : spaceTab wr.heap.size wr := Lib.tabBelow_of_tabIs (hJ.on hwr).here
      go_wp2_with fail
      refine Calls.mono hjn ?_
      rintro r w3 ⟨rfl, hb3⟩
      have hw3 := below_next hwr hb3
      have hB3 := hB.next hb3
      have hJ3 : spaceTab w3.heap.size w3 := Lib.tabBelow_of_tabIs (hJ.on hw3).here
      clear hjn hb3 hO hwr hw0 hB hJr hJ
      have h1 := Tryz.shown1 w3 hJ3
      have h0 := Tryz.shown0 w3 hJ3
      unfold valV at h1 h0
      obtain ⟨c0, c1, c2, c3, c4, c5, c6, c7, c8, c9, c10, c11, c12⟩ := hB3.is
      have hres : Hid (textT (.mk x l) = if x.k = 1 then wordT x else headT x ++ 40 :: (joinT l ++ [41])) := Lib.hid (by rfl)
      rcases hnode with ⟨rfl, -⟩ | ⟨rfl, -⟩ | ⟨rfl, -⟩ | ⟨rfl, -⟩
      all_goals simp only [oneX, nulX, leafX, opX, inX] at c0 c1 c2 c3 c4 c5 c6 c7 c8 hB3
      · go_wp2_with fail
        refine Calls.mono h1 ?_
        rintro r w4 ⟨rfl, hb4⟩
        go_wp2_with fail
        go_ret
        rw [hres.out]
        exact ⟨rfl, below_next hw3 hb4⟩
      · go_wp2_with fail
        refine Calls.mono h0 ?_
        rintro r w4 ⟨rfl, hb4⟩
        go_wp2_with fail
        go_ret
        rw [hres.out]
        exact ⟨rfl, below_next hw3 hb4⟩
      · go_upto_region 19 with fail
        go_region_with (first | (go_at_call 136; refine (Tryz.opNames _).mono ?_; rintro r w4 ⟨q, rfl, hq, hb4⟩; have hw4 := below_next hw3.drew hb4; have hB4 := Box.next (W := w3.drew) hB3 hb4; obtain ⟨c0, c1, c2, c3, c4, c5, c6, c7, c8, c9, c10, c11, c12⟩ := hB4.is; simp only at c0 c1 c2 c3 c4 c5 c6 c7 c8))
        all_goals
          go_wp2_with (go_at_call 137; refine (Tryz.numbered _ _).mono ?_; rintro r w5 ⟨rfl, rfl⟩)
          go_ret
          rw [hres.out]
          refine ⟨?_, hw4⟩
          show Ending.returned (Value.string ((⟨#[110, 101, 103]⟩ : ByteArray) ++ ((⟨#[40]⟩ : ByteArray) ++ ⟨(joinT l).toArray⟩ ++ (⟨#[41]⟩ : ByteArray)))) = _
          rw [show (⟨#[110, 101, 103]⟩ : ByteArray) = ⟨[110, 101, 103].toArray⟩ from rfl, show (⟨#[40]⟩ : ByteArray) = ⟨[40].toArray⟩ from rfl, show (⟨#[41]⟩ : ByteArray) = ⟨[41].toArray⟩ from rfl, ba_append, ba_append, ba_append]
          simp [opX, headT]
      · go_wp2_with fail
        go_ret
        rw [hres.out]
        refine ⟨?_, hw3⟩
        show Ending.returned (Value.string ((⟨#[105, 110]⟩ : ByteArray) ++ ((⟨#[40]⟩ : ByteArray) ++ ⟨(joinT l).toArray⟩ ++ (⟨#[41]⟩ : ByteArray)))) = _
        rw [show (⟨#[105, 110]⟩ : ByteArray) = ⟨[105, 110].toArray⟩ from rfl, show (⟨#[40]⟩ : ByteArray) = ⟨[40].toArray⟩ from rfl, show (⟨#[41]⟩ : ByteArray) = ⟨[41].toArray⟩ from rfl, ba_append, ba_append, ba_append]
        simp [inX, headT]
theorem Tryz.scalarTextL : ∀ d, STextC d
  | 0 => fun _ _ _ _ _ h => h.elim
  | d + 1 => fun e ad cap N w h hlim hN hlen hJ => by
    have hparts : ∀ i (hi : i < e.args.length), Lim e.args[i] := fun i hi => hlim.part hi
    have hnode := hlim.node
    have hj : (joinT e.args).length ≤ 65536 := by
      by_cases hk : e.node.k = 1
      · have h0 : e.args = [] := by
          rcases hnode with ⟨_, hx⟩ | ⟨_, hx⟩ | ⟨hx, _⟩ | ⟨hx, _⟩
          · exact List.length_eq_zero_iff.1 hx
          · exact List.length_eq_zero_iff.1 hx
          · rw [hx] at hk; exact absurd hk (by decide)
          · rw [hx] at hk; exact absurd hk (by decide)
        rw [h0]; exact Nat.zero_le _
      · rw [textT_node e hk] at hlen
        simp only [List.length_append, List.length_cons] at hlen
        omega
    obtain ⟨x, l⟩ := e
    exact Tryz.stextA (Tryz.scalarTextL d) x l hnode hparts ad cap N w ⟨h.2.1, h.2.2.1, h.2.2.2⟩ hN hj hJ

/-! The kinds of parts, not used: no fault in a tree of the law. -/

theorem sfN_lim {x : Node} {n : Nat} (h : LimX x n) : sfN x n = 0 := by
  rcases h with ⟨rfl, rfl⟩ | ⟨rfl, rfl⟩ | ⟨rfl, rfl⟩ | ⟨rfl, h⟩
  · decide +kernel
  · decide +kernel
  · decide +kernel
  · have : (2 : Int) ≤ n := by omega
    unfold sfN sfOk onlyB inX
    simp [this, inB, eq3]

theorem leafF_lim {x : Node} {n : Nat} (h : LimX x n) : (leafF x).2 = 0 := by
  rcases h with ⟨rfl, rfl⟩ | ⟨rfl, rfl⟩ | ⟨rfl, rfl⟩ | ⟨rfl, h⟩ <;> decide +kernel

theorem foldL_all {f : Node → List Int → Int × Int} : ∀ (l : List Ex), (∀ a ∈ l, (foldT f a).2 = 0) → (foldL f l).2 = 0 ∧ (foldL f l).1.length = l.length
  | [], _ => ⟨rfl, rfl⟩
  | a :: l, h => by
    have h1 := h a (List.mem_cons_self ..)
    obtain ⟨h2, h3⟩ := foldL_all l fun b hb => h b (List.mem_cons_of_mem _ hb)
    rw [foldL_cons, if_pos h1, if_pos h2]
    exact ⟨rfl, by simp [h3]⟩

theorem noColL_all : ∀ (l : List Ex), (∀ a ∈ l, noColT a = true) → noColL l = true
  | [], _ => rfl
  | a :: l, h => by
    unfold noColL
    rw [h a (List.mem_cons_self ..), noColL_all l fun b hb => h b (List.mem_cons_of_mem _ hb)]
    rfl

theorem lim_fold : ∀ (n : Nat) (e : Ex), countT e ≤ n → Lim e → (foldT nodeF e).2 = 0 ∧ noColT e = true
  | 0, e, h, _ => by cases e; unfold countT at h; omega
  | n + 1, e, h, hl => by
    have hnode := hl.node
    have hparts : ∀ a ∈ e.args, (foldT nodeF a).2 = 0 ∧ noColT a = true := by
      intro a ha
      obtain ⟨i, hi, rfl⟩ := List.getElem_of_mem ha
      have := countL_mem hi
      rw [countT_eq] at h
      exact lim_fold n _ (by omega) (hl.part hi)
    obtain ⟨h1, h2⟩ := foldL_all (f := nodeF) e.args fun a ha => (hparts a ha).1
    obtain ⟨x, l⟩ := e
    refine ⟨?_, ?_⟩
    · rw [foldT_eq, if_pos h1]
      have hs : sfN x (foldL nodeF (Ex.mk x l).args).1.length = 0 := by rw [h2]; exact sfN_lim hnode
      show (if sfN x (foldL nodeF (Ex.mk x l).args).1.length == 0 then leafF x else _).2 = 0
      rw [hs]
      exact leafF_lim hnode
    · unfold noColT
      rw [noColL_all l fun a ha => (hparts a ha).2, Bool.and_true]
      rcases hnode with ⟨hx, _⟩ | ⟨hx, _⟩ | ⟨hx, _⟩ | ⟨hx, _⟩ <;> (have hx : x = _ := hx; rw [hx]; rfl)

set_option maxRecDepth 20000 in
set_option maxHeartbeats 2000000 in
theorem Tryz.scalarTextR (d : Nat) (e : Ex) (ad : Option Addr) (cap N : Nat) (w : World) (h : ExIs d w N ad cap e) (hlim : Lim e) (hN : N ≤ w.heap.size) (hlen : (textT e).length ≤ 65536) (hcnt : countT e ≤ 1000000000) (hJ : spaceTab w.heap.size w) :
    Calls Tryz.prog 43 #[e.v ad cap] w fun r w' => r = .returned (saidT e) ∧ Below w.heap.size w w' := by
  have hw0 : Below w.heap.size w (w.alloc (.cells (e.node.cells (.slice ad e.args.length cap)) 57)) := (Below.refl _ _).alloc (Nat.le_refl _) _
  have hB0 : Box (w.alloc (.cells (e.node.cells (.slice ad e.args.length cap)) 57)) w.heap.size e.node (.slice ad e.args.length cap) := Box.new _ _ _
  obtain ⟨hf, hnc⟩ := lim_fold (countT e) e (Nat.le_refl _) hlim
  have hsz := fun (W : World) (hb : Below w.heap.size w W) => Tryz.sizeOf d e ad cap N W (h.below (hb.mono hN)) (Nat.le_trans hN hb.size) hcnt
  have hsc := fun (W : World) (hb : Below w.heap.size w W) => Tryz.scalf [] [] none none 0 0 N (Nat.zero_le _) (Nat.zero_le _) (by simp) (by simp) d e ad cap W (h.below (hb.mono hN)) (fun i hi => by simp at hi) (fun i hi => by simp at hi) (Nat.le_trans hN hb.size) (Lib.tabBelow_of_tabIs (hJ.on hb).here) hnc
  have htx := fun (W : World) (hb : Below w.heap.size w W) => Tryz.scalarTextL d e ad cap N W (h.below (hb.mono hN)) hlim (Nat.le_trans hN hb.size) hlen (Lib.tabBelow_of_tabIs (hJ.on hb).here)
  rw [hf] at hsc
  have hlaw := sized_law e
  have hdp : deepT e ≤ 1000000000 := Nat.le_trans (deepT_le e) hcnt
  unfold Ex.v Node.v at hsz hsc htx
  unfold Ex.v Node.v
  go_enter Tryz.func43, Tryz.ntmps43
  go_upto_region 1 with fail
  generalize w.alloc (.cells (e.node.cells (.slice ad e.args.length cap)) 57) = W1 at hB0 hw0 ⊢
  obtain ⟨c0, c1, c2, c3, c4, c5, c6, c7, c8, c9, c10, c11, c12⟩ := hB0.is
  cases hz : (sizesT e 1 0).1 with
  | false =>
    have hspec : Hid (saidT e = .tuple #[.string ⟨#[]⟩, .int .i64 2]) := Lib.hid (by unfold saidT; rw [hz]; rfl)
    rw [hz] at hlaw
    have hor : 400 < countT e ∨ 24 < deepT e := by
      by_cases h1 : 400 < countT e
      · exact .inl h1
      · by_cases h2 : 24 < deepT e
        · exact .inr h2
        · simp [h1, h2] at hlaw
    clear hlaw hsc htx
    generalize countT e = n at *
    generalize deepT e = q at *
    by_cases h1 : 400 < n
    · have h1' : (400 : Int) < n := by omega
      clear hor
      go_wp2_with fail
      refine Calls.mono (hsz _ hw0) ?_
      rintro r w2 ⟨rfl, hb2⟩
      go_wp2_with fail
      go_ret2
      rw [hspec.out]
      exact ⟨rfl, below_next hw0 hb2⟩
    · have h1' : ¬ (400 : Int) < n := by omega
      have h2' : (24 : Int) < q := by omega
      clear hor
      go_wp2_with fail
      refine Calls.mono (hsz _ hw0) ?_
      rintro r w2 ⟨rfl, hb2⟩
      go_wp2_with fail
      go_ret2
      rw [hspec.out]
      exact ⟨rfl, below_next hw0 hb2⟩
  | true =>
    have hspec : Hid (saidT e = .tuple #[.string ⟨(textT e).toArray⟩, .int .i64 0]) := Lib.hid (by unfold saidT; rw [hz]; rfl)
    rw [hz] at hlaw
    have h1 : ¬ 400 < countT e := by intro h; simp [h] at hlaw
    have h2 : ¬ 24 < deepT e := by intro h; simp [h] at hlaw
    have h1' : ¬ (400 : Int) < countT e := by omega
    have h2' : ¬ (24 : Int) < deepT e := by omega
    have hsl : (⟨(textT e).toArray⟩ : ByteArray).size = (textT e).length := by simp [ByteArray.size]
    clear hlaw hf
    generalize countT e = n at *
    generalize deepT e = q at *
    generalize (foldT nodeF e).1 = fk at *
    generalize (textT e).length = tl at *
    generalize (⟨(textT e).toArray⟩ : ByteArray) = tx at *
    have h3 : ¬ (65536 : Int) < tx.size := by omega
    go_wp2_with fail
    refine Calls.mono (hsz _ hw0) ?_
    rintro r w2 ⟨rfl, hb2⟩
    have hw2 := below_next hw0 hb2
    have hB2 := hB0.next hb2
    clear c0 c1 c2 c3 c4 c5 c6 c7 c8 c9 c10 c11 c12 hsz
    obtain ⟨c0, c1, c2, c3, c4, c5, c6, c7, c8, c9, c10, c11, c12⟩ := hB2.is
    go_wp2_with fail
    refine Calls.mono (hsc _ hw2) ?_
    rintro r w3 ⟨rfl, hb3⟩
    have hw3 := below_next hw2 hb3
    have hB3 := hB2.next hb3
    clear c0 c1 c2 c3 c4 c5 c6 c7 c8 c9 c10 c11 c12 hsc
    obtain ⟨c0, c1, c2, c3, c4, c5, c6, c7, c8, c9, c10, c11, c12⟩ := hB3.is
    go_wp2_with fail
    refine Calls.mono (htx _ hw3) ?_
    rintro r w4 ⟨rfl, hb4⟩
    go_wp2_with fail
    go_ret2
    rw [hspec.out]
    exact ⟨rfl, below_next hw3 hb4⟩
end Go.Proofs
