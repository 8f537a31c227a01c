/- Of the document's package: OrderOf. No condition. -/
import Derived.Test.YtaikipdjknhjdaaGreatDoorOrder
import Derived.Test.YtaikipdjknhjdaaGreatDoorReachR
import Derived.Test.YtaikipdjknhjdaaGreatDoorWaitN
namespace Go.Proofs
open Go.RowKit Go.Ke Go.Orders

theorem Turns.set {g i : Nat} {v : Value} {w w1 : World} (h : Turns g w w1) : Turns g w (w1.setCell ⟨g, i, none⟩ v) :=
  ⟨by rw [size_set]; exact h.size, fun k hk hg => (block_set_ne (Ne.symm hg)).trans (h.same k hk hg), Below.setCell h.below (Nat.le_refl _) _⟩

theorem cell_size {w : World} {p o : Nat} {v : Value} (h : w.cell? ⟨p, o, none⟩ = some v) : p < w.heap.size := by
  cases hp : w.heap[p]? with
  | none => simp [World.cell?, hp] at h
  | some o => exact (Array.getElem?_eq_some_iff.mp hp).1

theorem Turns.cell {g p o : Nat} {v : Value} {w w1 : World} (ht : Turns g w w1) (h : w.cell? ⟨p, o, none⟩ = some v) (hp : p ≠ g) : w1.cell? ⟨p, o, none⟩ = some v := by
  have := ht.same p (cell_size h) hp
  unfold World.cell? at h ⊢
  rw [this]
  exact h

theorem Turns.call {g : Nat} {w w1 w2 : World} (h : Turns g w w1) (hg : g < w1.heap.size) (hb : Below w1.heap.size w1 w2) : Turns g w w2 := h.trans (Turns.of hb (Nat.le_of_lt hg))

/-- A row of names; beside it only block po has turned. -/
structure NamesT (po : Nat) (v : Value) (l : List Nat) (wo w : World) : Prop where
  own : w.ownsRow wo.heap.size 9 1 v l.length (names l)
  turn : Turns po wo w
  lt : po < wo.heap.size

theorem NamesT.start {po : Nat} {wo : World} (h : po < wo.heap.size) : NamesT po (.slice none 0 0) [] wo wo := ⟨World.ownsRow_nil _ _ _ _, Turns.refl _ _, h⟩

theorem NamesT.call {po : Nat} {v : Value} {l : List Nat} {wo w w' : World} (h : NamesT po v l wo w) (hb : Below w.heap.size w w') : NamesT po v l wo w' :=
  ⟨h.own.kept (grown_of_below hb none) (by cases hv : v.ownBlock <;> simp), h.turn.call (Nat.lt_of_lt_of_le h.lt h.turn.size) hb, h.lt⟩

theorem NamesT.put {po i : Nat} {v x : Value} {l : List Nat} {wo w : World} (h : NamesT po v l wo w) : NamesT po v l wo (w.setCell ⟨po, i, none⟩ x) := by
  refine ⟨h.own.kept (row := some po) ⟨rfl, rfl, rfl, by simp [World.setCell], fun k _ hk => block_set_ne fun e => hk (by rw [e])⟩ (.inr fun e => ?_), h.turn.set, h.lt⟩
  have := (own_lt h.own po e).1
  have := h.lt
  omega

theorem own_slice {B : Nat} {v : Value} {l : List Nat} {w : World} (h : w.ownsRow B 9 1 v l.length (names l)) : ∃ ad cap, v = .slice ad l.length cap ∧ StrsAt w ad (l.map nameL) ∧ ∀ p o, ad = some ⟨p, o, none⟩ → B ≤ p := by
  rcases h.2 with ⟨hv, hn⟩ | ⟨g, cap, cur, hv, hb, hg, _⟩
  · refine ⟨none, 0, by rw [hv, hn], fun i hi => ?_, fun p o h => by cases h⟩
    rw [List.length_map] at hi
    omega
  · refine ⟨some ⟨g, 0, none⟩, cap, hv, fun i hi => ⟨g, 0, rfl, ?_⟩, fun p o h => by cases h; exact hb⟩
    have hc := h.cells (g := g) (by rw [hv]; rfl)
    have ha : ∀ j, (⟨g, 0, none⟩ : Addr).add j = ⟨g, 0 + j, none⟩ := fun j => by unfold Addr.add; split <;> simp_all
    have h0 : (names l)[i]? = some (.string ((l.map nameL)[i])) := by
      rw [List.length_map] at hi
      unfold names
      simp [hi]
    have c0 := hc _ _ h0
    rwa [ha] at c0

theorem StrsAt.turn {po : Nat} {ad : Option Addr} {l : List ByteArray} {w w' : World} (h : StrsAt w ad l) (ht : Turns po w w') (hp : ∀ p o, ad = some ⟨p, o, none⟩ → p ≠ po) : StrsAt w' ad l := fun i hi => by
  obtain ⟨p, o, h1, h2⟩ := h i hi
  exact ⟨p, o, h1, ht.cell h2 (hp p o h1)⟩

/-- A name joins the row. -/
theorem append_nameT {ops : Array Oper} {rest : List Oper} {o : Oper} {a : Act} {Q : Exit → Act → World → Prop} (hgd : o.guard = none) (s x : Operand)
    (ho : o.op = .call { callee := .builtin .append, args := #[s, x], argTypes := #[35, 35] })
    {po : Nat} {v : Value} {l : List Nat} {wo w0 : World} (hb : NamesT po v l wo w0) (k : Nat) {c : ByteArray} (hc : c = nameL k) (hlen : l.length + 1 ≤ 1000000000) (hs : a.eval s = v)
    (hx : ∃ G, a.eval x = .slice (some ⟨G, 0, none⟩) 1 1 ∧ w0.heap.size = G)
    (h : ∀ v' w', NamesT po v' (l ++ [k]) wo w' → w'.heap[po]? = w0.heap[po]? → wpList Tryz.prog ops Q rest (a.put o.dst v') w') : wpList Tryz.prog ops Q (o :: rest) a (w0.alloc (.cells #[.string c] 9)) := by
  subst hc
  obtain ⟨i, hi, hz, hsize, hby⟩ := info_parts Tryz.info9'
  obtain ⟨G, hx, rfl⟩ := hx
  have hsz := ex_alloc_size w0 (.cells #[.string (nameL k)] 9)
  have hb' := hb.call ((Below.refl w0.heap.size w0).alloc (Nat.le_refl _) (.cells #[.string (nameL k)] 9))
  refine wpList_append_own _ hgd s x 35 ho wo.heap.size 9 i (.string ⟨#[]⟩) 1 16 Tryz.under35 hi hz hsize hby rfl (by decide) v l.length (names l) hs hb'.own ⟨w0.heap.size, 0, none⟩ 1 1 [.string (nameL k)] hx rfl ?_ ?_ (by unfold maxLen; omega) (by omega) hb'.turn.size ?_
  · intro j y hj
    match j, hj with
    | 0, hj => simp at hj; subst hj; simp [Addr.add]
    | (j + 1), hj => simp at hj
  · intro y hy; simp at hy; subst hy; rfl
  · intro v' w' ho' hg _
    have hl := hb'.lt
    have hsw := hb'.turn.size
    have hne : ∀ k, k < wo.heap.size → some k ≠ v.ownBlock := fun k hk e => by have := (own_lt hb'.own k e.symm).1; omega
    refine h v' w' ⟨?_, ⟨Nat.le_trans hsw hg.size, fun k hk hkp => (hg.block k (by omega) (hne k hk)).trans (hb'.turn.same k hk hkp), ⟨hg.os.trans hb'.turn.below.os, hg.tape.trans hb'.turn.below.tape, hg.output.trans hb'.turn.below.output, Nat.le_trans hsw hg.size, fun k hk => (hg.block k (by omega) (hne k (by omega))).trans (hb'.turn.below.block k hk)⟩⟩, hb.lt⟩ ?_
    · rw [names_snoc, List.length_append]
      exact ho'
    · have h1 := hb.turn.size
      exact (hg.block po (by omega) (hne po hl)).trans (heap_alloc_old w0 _ (by omega))

/-- What stays while OrderOf goes on: the box of the schema, the matrix. -/
structure OrdR (x : Schema) (b g mb : Nat) (rb : Nat → Nat) (R : Mat) (po : Nat) (w : World) : Prop where
  box : x.Box b w
  gm : w.cell? ⟨g, 0, none⟩ = some (.slice (some ⟨mb, 0, none⟩) x.n x.n)
  mat : MatAt w mb rb x.n R
  nb : b ≠ po
  ng : g ≠ po
  nm : mb ≠ po
  nr : ∀ i, i < x.n → rb i ≠ po

theorem OrdR.turn {x : Schema} {b g mb : Nat} {rb : Nat → Nat} {R : Mat} {po : Nat} {w w' : World} (h : OrdR x b g mb rb R po w) (ht : Turns po w w') : OrdR x b g mb rb R po w' :=
  ⟨(ht.same b (blk_lt h.box) h.nb).trans h.box, ht.cell h.gm h.ng, ⟨fun i hi => ht.cell (h.mat.rows i hi) h.nm, fun i hi j hj => ht.cell (h.mat.cells i hi j hj) (h.nr i hi)⟩, h.nb, h.ng, h.nm, h.nr⟩

theorem OrdR.next {x : Schema} {b g mb : Nat} {rb : Nat → Nat} {R : Mat} {po : Nat} {w w' : World} (h : OrdR x b g mb rb R po w) (hb : Below w.heap.size w w') : OrdR x b g mb rb R po w' :=
  ⟨heap_kept hb h.box, cell_kept hb h.gm, h.mat.next hb, h.nb, h.ng, h.nm, h.nr⟩

theorem OrdR.bcell {x : Schema} {b g mb : Nat} {rb : Nat → Nat} {R : Mat} {po : Nat} {w : World} (h : OrdR x b g mb rb R po w) : w.cell? ⟨b, 0, none⟩ = some (.slice (some ⟨x.tb, 0, none⟩) x.n x.cap) := by
  have h1 := h.box.cell
  unfold Schema.sl at h1
  exact h1

theorem Schema.At.table {x : Schema} {w : World} (h : x.At w) {i : Nat} (hi : i < x.n) : ∃ ad c, x.F i = .slice ad (x.nf i) c ∧
    w.cell? ⟨x.tb, i * 5, none⟩ = some (.string (nameL i)) ∧ w.cell? ⟨x.tb, i * 5 + 1, none⟩ = some (.slice (some ⟨x.cb i, 0, none⟩) 2 2) ∧ w.cell? ⟨x.tb, i * 5 + 2, none⟩ = some (.slice (some ⟨x.kb i, 0, none⟩) 1 1) ∧ w.cell? ⟨x.tb, i * 5 + 3, none⟩ = some (.slice ad (x.nf i) c) ∧ w.cell? ⟨x.tb, i * 5 + 4, none⟩ = some (.slice none 0 0) := by
  obtain ⟨ad, c, hF, _⟩ := x.F_at i
  refine ⟨ad, c, hF, ?_⟩
  rw [← hF]
  exact h.sch.cell hi

theorem bs_eq {u v w : Bool} {i j : Nat} : (!(j == i) && (!w && !(u && v))) = (!(j == i) && (!w && !(!(i == j) && (u && v)))) := by
  by_cases e : j = i
  · subst e; simp
  · have : (i == j) = false := beq_eq_false_iff_ne.mpr fun h => e h.symm
    rw [this]
    rfl

/-- The circles, in the midst of a round. -/
def circM (R : Mat) (n i k : Nat) : List Nat := circN R n i ++ if (List.range k).any (circ R i) then [i] else []

theorem circM_zero (R : Mat) (n i : Nat) : circM R n i 0 = circN R n i := by unfold circM; simp
theorem circM_full (R : Mat) (n i : Nat) : circM R n i n = circN R n (i + 1) := by rw [circN_next]; rfl
theorem circM_has (R : Mat) (n i k : Nat) : has (circM R n i k) i = (List.range k).any (circ R i) := by
  unfold circM has
  rw [List.contains_append]
  have : (circN R n i).contains i = false := by
    cases h : (circN R n i).contains i with
    | false => rfl
    | true =>
      have := circN_lt (List.contains_iff_mem.mp h)
      omega
  rw [this]
  cases (List.range k).any (circ R i) <;> simp
theorem circM_next (R : Mat) (n i k : Nat) : circM R n i (k + 1) = if circ R i k && !has (circM R n i k) i then circM R n i k ++ [i] else circM R n i k := by
  rw [circM_has]
  unfold circM
  rw [List.range_succ, List.any_append]
  simp only [List.any_cons, List.any_nil, Bool.or_false]
  cases (List.range k).any (circ R i) <;> cases circ R i k <;> simp
theorem circM_len (R : Mat) (n i k : Nat) : (circM R n i k).length ≤ i + 1 := by
  have := circN_len R n i
  unfold circM
  rw [List.length_append]
  split <;> simp <;> omega
theorem circM_lt {R : Mat} {n i k a : Nat} (h : a ∈ circM R n i k) : a < i + 1 := by
  unfold circM at h
  rw [List.mem_append] at h
  rcases h with h | h
  · have := circN_lt h; omega
  · split at h
    · rw [List.mem_singleton] at h; omega
    · cases h

theorem Tryz.containsN {l : List Nat} {n j : Nat} {ad : Option Addr} {ca : Nat} {w : World} (hs : StrsAt w ad (l.map nameL)) (hl : ∀ i ∈ l, i < n) (hn : n ≤ 6) (hj : j < n) (hlen : l.length ≤ 1000000) :
    Calls Tryz.prog 18 #[.slice ad l.length ca, .string (nameL j)] w fun e w' => e = .returned (.bool (has l j)) ∧ w' = w := by
  have := Tryz.containsS (l.map nameL) (nameL j) ad ca w hs (by rw [List.length_map]; exact hlen)
  rw [name_has hl hn hj, List.length_map] at this
  exact this

set_option maxRecDepth 20000 in
set_option maxHeartbeats 4000000 in
theorem Tryz.orderOf {x : Schema} {w : World} (h : x.At w) :
    Calls Tryz.prog 7 #[x.v] w fun e w' => ∃ oa oc ca cc, e = .returned (.tuple #[.slice oa x.n oc, .slice ca (circN (reach x.gs) x.n x.n).length cc]) ∧ StrsAt w' oa ((orderN x.gs (reach x.gs) x.n x.n).map nameL) ∧ StrsAt w' ca ((circN (reach x.gs) x.n x.n).map nameL) ∧ Below w.heap.size w w' := by
  have h6 := h.n6
  have hR := h.right
  have hw0 : Below w.heap.size w (w.alloc (.cells #[.slice (some ⟨x.tb, 0, none⟩) x.n x.cap] 28)) := (Below.refl _ _).alloc (Nat.le_refl _) _
  have hB : x.Box w.heap.size (w.alloc (.cells #[.slice (some ⟨x.tb, 0, none⟩) x.n x.cap] 28)) := heap_alloc_new' _ _
  have hsz0 : (w.alloc (.cells #[.slice (some ⟨x.tb, 0, none⟩) x.n x.cap] 28)).heap.size = w.heap.size + 1 := ex_alloc_size _ _
  have hw1 := below_next hw0 ((Below.refl _ _).alloc (Nat.le_refl _) (.cells #[.slice none 0 0] 35))
  have hB1 : x.Box w.heap.size ((w.alloc (.cells #[.slice (some ⟨x.tb, 0, none⟩) x.n x.cap] 28)).alloc (.cells #[.slice none 0 0] 35)) := heap_kept ((Below.refl _ _).alloc (Nat.le_refl _) _) hB
  have hP1 := heap_alloc_new' (w.alloc (.cells #[.slice (some ⟨x.tb, 0, none⟩) x.n x.cap] 28)) (.cells #[.slice none 0 0] 35)
  rw [hsz0] at hP1
  have hsz1 : ((w.alloc (.cells #[.slice (some ⟨x.tb, 0, none⟩) x.n x.cap] 28)).alloc (.cells #[.slice none 0 0] 35)).heap.size = w.heap.size + 1 + 1 := by rw [ex_alloc_size, hsz0]
  have hA1 := h.next hw1
  unfold Schema.v
  go_enter Tryz.func7, Tryz.ntmps7
  go_upto_region 1 with fail
  generalize (w.alloc (.cells #[.slice (some ⟨x.tb, 0, none⟩) x.n x.cap] 28)).alloc (.cells #[.slice none 0 0] 35) = W1 at hw1 hB1 hP1 hsz1 hA1 ⊢
  have b0 := hB1.cell
  unfold Schema.sl at b0
  have hre := Tryz.reachR hA1
  unfold Schema.v at hre
  go_wp2_with fail
  refine Calls.mono hre ?_
  rintro e w3 ⟨mb, rb, rfl, hM3, hb3, hmb, hrb⟩
  clear hre b0
  generalize hRe : reach x.gs = R at *
  replace hRe := Lib.hid hRe
  have hb4 : Below w3.heap.size w3 (w3.alloc (.cells #[.slice (some ⟨mb, 0, none⟩) x.n x.n] 52)) := (Below.refl _ _).alloc (Nat.le_refl _) _
  have hg4 : (w3.alloc (.cells #[.slice (some ⟨mb, 0, none⟩) x.n x.n] 52)).heap[w3.heap.size]? = some (.cells #[.slice (some ⟨mb, 0, none⟩) x.n x.n] 52) := heap_alloc_new' _ _
  go_upto_region 2 with fail
  generalize w3.alloc (.cells #[.slice (some ⟨mb, 0, none⟩) x.n x.n] 52) = w4 at hb4 hg4 ⊢
  have hs3 := hb3.size
  have hb34 := below_next hb3 hb4
  have hA4 := hA1.next hb34
  have hP4 := heap_kept hb34 hP1
  have hO4 : OrdR x w.heap.size w3.heap.size mb rb R (w.heap.size + 1) w4 := by
    exact ⟨heap_kept hb34 hB1, by simp [World.cell?, hg4], hM3.next hb4, by omega, by omega, by omega, fun i hi => by have := hrb i hi; omega⟩
  have hw4 := below_next hw1 hb34
  have hpo : w.heap.size + 1 < w4.heap.size := by have := hb4.size; omega
  generalize w3.heap.size = g at hO4 ⊢
  clear hM3 hb3 hb4 hg4 hb34 hA1 hB1 hP1 hB hsz0 hsz1 hw0 hmb hrb hs3 hw1
  have b0 := hO4.bcell
  have b1 := hO4.gm
  go_wp2_with fail
  go_loopw [3, 16] (fun cv v wr => ∃ i : Nat, v = .int .i64 i ∧ i ≤ x.n ∧ Names w4.heap.size cv (circN R x.n i) w4 wr) (fun _ v _ => x.n - (intOf v).toNat)
  case atStart => exact ⟨0, rfl, Nat.zero_le _, Names.start w4⟩
  case round =>
    obtain ⟨i, rfl, hi, hN⟩ := hrel
    have hAr := hA4.next hN.2.1
    have hOr := hO4.next hN.2.1
    by_cases hin : i < x.n
    · obtain ⟨ad, fc, hF, t0, t1, t2, t3, t4⟩ := hAr.table hin
      have hwA : Below wr.heap.size wr (wr.alloc (.cells #[.string (nameL i), .slice (some ⟨x.cb i, 0, none⟩) 2 2, .slice (some ⟨x.kb i, 0, none⟩) 1 1, .slice ad (x.nf i) fc, .slice none 0 0] 39)) := (Below.refl _ _).alloc (Nat.le_refl _) _
      have hTb := heap_alloc_new' wr (.cells #[.string (nameL i), .slice (some ⟨x.cb i, 0, none⟩) 2 2, .slice (some ⟨x.kb i, 0, none⟩) 1 1, .slice ad (x.nf i) fc, .slice none 0 0] 39)
      have hcn := fun (l : List Nat) (a : Option Addr) (c : Nat) (W : World) hs hl hln => @Tryz.containsN l x.n i a c W hs hl h6 hin hln
      generalize hs1 : nameL i = s1 at *
      replace hs1 := Lib.hid hs1
      go_upto_region 5 with fail
      generalize wr.alloc (.cells #[.string s1, .slice (some ⟨x.cb i, 0, none⟩) 2 2, .slice (some ⟨x.kb i, 0, none⟩) 1 1, .slice ad (x.nf i) fc, .slice none 0 0] 39) = WA at hwA hTb ⊢
      generalize wr.heap.size = c at hTb ⊢
      have hNA := hN.call hwA
      have c0 := (hO4.next hNA.2.1).bcell
      clear t0 t1 t2 t3 t4 hN hOr hwA hAr
      go_wp2_with fail
      go_loopw [3, 24] (fun cv v wr => ∃ k : Nat, v = .int .i64 k ∧ k ≤ x.n ∧ Names w4.heap.size cv (circM R x.n i k) w4 wr ∧ wr.heap[c]? = some (.cells #[.string s1, .slice (some ⟨x.cb i, 0, none⟩) 2 2, .slice (some ⟨x.kb i, 0, none⟩) 1 1, .slice ad (x.nf i) fc, .slice none 0 0] 39)) (fun _ v _ => x.n - (intOf v).toNat)
      case atStart => exact ⟨0, rfl, Nat.zero_le _, by rw [circM_zero]; exact hNA, hTb⟩
      case round =>
        obtain ⟨k, rfl, hk, hN, hT⟩ := hrel
        clear hNA hTb c0
        by_cases hkn : k < x.n
        · have hOr := hO4.next hN.2.1
          obtain ⟨ca, cc, rfl, hca⟩ := hN.slice
          have hcc := hcn _ ca cc wr hca (fun a ha => by have := circM_lt ha; omega) (by have := circM_len R x.n i k; omega)
          have hln := circM_len R x.n i k
          have hnx := circM_next R x.n i k
          have hT0 : wr.cell? ⟨c, 0, none⟩ = some (.string s1) := by simp [World.cell?, hT]
          have d0 := hOr.gm
          have d1 := hOr.mat.rows i hin
          have d2 := hOr.mat.rows k hkn
          have d3 := hOr.mat.cells i hin k hkn
          have d4 := hOr.mat.cells k hkn i hin
          unfold circ at hnx
          generalize hL1 : circM R x.n i (k + 1) = L' at *
          generalize circM R x.n i k = L at *
          replace hL1 := Lib.hid hL1
          replace hnx := Lib.hid hnx
          by_cases e : i = k
          · have e1 : (i == k) = true := beq_iff_eq.mpr e
            have hL : L' = L := by rw [hnx.out, e1]; simp
            subst hL
            subst e
            clear hnx e1
            go_wp2_with fail
            go_roundw
            case rel => exact ⟨i + 1, by go_num, by omega, by rw [hL1.out]; exact hN, hT⟩
            case measure => simp [intOf]; omega
          · have e1 : (i == k) = false := beq_eq_false_iff_ne.mpr e
            have e2 : ((k : Int) != (i : Int)) = true := bne_iff_ne.mpr (by omega)
            have e3 := Lib.hid e1
            clear e1
            generalize R i k = u at *
            generalize R k i = v at *
            generalize has L i = q at *
            cases u
            · have hL : L' = L := by rw [hnx.out, e3.out]; simp
              subst hL
              clear hnx
              go_wp2_with fail
              go_roundw
              case rel => exact ⟨k + 1, by go_num, by omega, by rw [hL1.out]; exact hN, hT⟩
              case measure => simp [intOf]; omega
            · cases v
              · have hL : L' = L := by rw [hnx.out, e3.out]; simp
                subst hL
                clear hnx
                go_wp2_with fail
                go_roundw
                case rel => exact ⟨k + 1, by go_num, by omega, by rw [hL1.out]; exact hN, hT⟩
                case measure => simp [intOf]; omega
              · cases q
                · have hL : L' = L ++ [i] := by rw [hnx.out, e3.out]; simp
                  replace hL := Lib.hid hL
                  clear hnx
                  go_wp2_with fail
                  refine Calls.mono hcc ?_
                  rintro e w7 ⟨rfl, rfl⟩
                  go_wp2_with (at_builtin; refine append_name ?_ (.tmp 55) (.tmp 58) ?_ hN i hs1.out.symm ?_ ?_ ?_ ?_; rfl; rfl; omega; rfl; exact ⟨_, rfl, rfl⟩; intro v3 w3 hN3 hxx)
                  have hT3 := (hxx 39 (by decide)).2 _ _ _ hT
                  go_roundw
                  case rel => exact ⟨k + 1, by go_num, by omega, by rw [hL1.out, hL.out]; exact hN3, hT3⟩
                  case measure => simp [intOf]; omega
                · have hL : L' = L := by rw [hnx.out, e3.out]; simp
                  subst hL
                  clear hnx
                  go_wp2_with fail
                  refine Calls.mono hcc ?_
                  rintro e w7 ⟨rfl, rfl⟩
                  go_wp2_with fail
                  go_roundw
                  case rel => exact ⟨k + 1, by go_num, by omega, by rw [hL1.out]; exact hN, hT⟩
                  case measure => simp [intOf]; omega
        · have hkx : k = x.n := by omega
          subst hkx
          rw [circM_full] at hN
          go_wp2_with fail
          go_roundw
          case rel => exact ⟨i + 1, by go_num, by omega, hN⟩
          case measure => simp [intOf]; omega
    · have hix : i = x.n := by omega
      subst hix
      have hwr := below_next hw4 hN.2.1
      have hPr := heap_kept hN.2.1 hP4
      have hpr : w.heap.size + 1 < wr.heap.size := Nat.lt_of_lt_of_le hpo hN.2.1.size
      obtain ⟨ca, cc, rfl, hca, hcb⟩ := own_slice hN.1
      have hcb : ∀ p o, ca = some ⟨p, o, none⟩ → p ≠ w.heap.size + 1 := fun p o e => by have := hcb p o e; omega
      generalize hC : circN R x.n x.n = C at *
      replace hC := Lib.hid hC
      obtain ⟨wo, rfl⟩ : ∃ wo : World, wo = wr := ⟨_, rfl⟩
      have hat : ∀ W : World, Turns (w.heap.size + 1) wo W → x.At W := fun W ht => h.next (hwr.trans (ht.below.mono (by omega)))
      clear hN hi hin hAr b0 b1 hO4 hA4 hP4 hw4 hpo
      have hN0 := NamesT.start hpr
      have p0 : wo.cell? ⟨w.heap.size + 1, 0, none⟩ = some (.slice none 0 0) := by simp [World.cell?, hPr]
      go_wp2_with fail
      go_loopw [71] (fun _ wr => ∃ (m : Nat) (ov : Value), m ≤ x.n ∧ NamesT (w.heap.size + 1) ov (orderN x.gs R x.n m) wo wr ∧ wr.heap[w.heap.size + 1]? = some (.cells #[ov] 35)) (fun _ wr => x.n - lenOf ((wr.cell? ⟨w.heap.size + 1, 0, none⟩).getD undef))
      case atStart => exact ⟨0, _, Nat.zero_le _, hN0, hPr⟩
      case round =>
        obtain ⟨m, ov, hm, hN, hP⟩ := hrel
        obtain ⟨wm, rfl⟩ : ∃ wm : World, wm = wr := ⟨_, rfl⟩
        clear hN0 p0
        have hll := Lib.hid (order_len hR m hm)
        have hnx := @order_succ x.gs R x.n m
        have hol := fun a (ha : a ∈ orderN x.gs R x.n m) => order_lt ha
        have hme : m = x.n → orderN x.gs R x.n m = orderN x.gs R x.n x.n := fun e => by rw [e]
        generalize hl : orderN x.gs R x.n m = l at *
        replace hl := Lib.hid hl
        obtain ⟨oa, oc, rfl, hst, hob⟩ := own_slice hN.own
        have hOm := hOr.turn hN.turn
        have hAm := hat wm hN.turn
        have p0 : wm.cell? ⟨w.heap.size + 1, 0, none⟩ = some (.slice oa l.length oc) := by simp [World.cell?, hP]
        have b0 := hOm.bcell
        by_cases hmn : m < x.n
        · obtain ⟨i0, hi0⟩ := order_next hR (l := l) (by have := hll.out; omega)
          have hln : l.length < x.n := by have := hll.out; omega
          go_wp2_with fail
          go_loopw [71] (fun v wq => ∃ i : Nat, v = .int .i64 i ∧ i ≤ x.n ∧ Below wm.heap.size wm wq ∧ Hid (∀ j, j < i → (!has l j && !waits x.gs R (has l) j) = false)) (fun v _ => x.n - (intOf v).toNat)
          case atStart => exact ⟨0, rfl, Nat.zero_le _, Below.refl _ _, Lib.hid fun j hj => absurd hj (Nat.not_lt_zero j)⟩
          case round =>
            obtain ⟨i, rfl, hi, hwq, hsp⟩ := hrel
            by_cases hin : i < x.n
            · have hAq := hAm.next hwq
              obtain ⟨ad, fc, hF, t0, t1, t2, t3, t4⟩ := hAq.table hin
              have hcn := fun (a : Option Addr) (c : Nat) (W : World) hs => @Tryz.containsN l x.n i a c W hs hol h6 hin (by omega)
              generalize hs1 : nameL i = s1 at *
              replace hs1 := Lib.hid hs1
              have hbA : Below wr.heap.size wr (wr.alloc (.cells #[.int .i64 i] 3)) := (Below.refl _ _).alloc (Nat.le_refl _) _
              have hwA := below_next hbA ((Below.refl _ _).alloc (Nat.le_refl _) (.cells #[.string s1, .slice (some ⟨x.cb i, 0, none⟩) 2 2, .slice (some ⟨x.kb i, 0, none⟩) 1 1, .slice ad (x.nf i) fc, .slice none 0 0] 39))
              have hsz : (wr.alloc (.cells #[.int .i64 i] 3)).heap.size = wr.heap.size + 1 := ex_alloc_size _ _
              have hpi : ((wr.alloc (.cells #[.int .i64 i] 3)).alloc (.cells #[.string s1, .slice (some ⟨x.cb i, 0, none⟩) 2 2, .slice (some ⟨x.kb i, 0, none⟩) 1 1, .slice ad (x.nf i) fc, .slice none 0 0] 39)).heap[wr.heap.size]? = some (.cells #[.int .i64 i] 3) :=
                (heap_alloc_old _ _ (by omega)).trans (heap_alloc_new' wr _)
              have hTb := heap_alloc_new' (wr.alloc (.cells #[.int .i64 i] 3)) (.cells #[.string s1, .slice (some ⟨x.cb i, 0, none⟩) 2 2, .slice (some ⟨x.kb i, 0, none⟩) 1 1, .slice ad (x.nf i) fc, .slice none 0 0] 39)
              rw [hsz] at hTb
              go_upto_region 16 with fail
              generalize (wr.alloc (.cells #[.int .i64 i] 3)).alloc (.cells #[.string s1, .slice (some ⟨x.cb i, 0, none⟩) 2 2, .slice (some ⟨x.kb i, 0, none⟩) 1 1, .slice ad (x.nf i) fc, .slice none 0 0] 39) = WA at hwA hpi hTb ⊢
              have hwmA := below_next hwq hwA
              have hOA := hOm.next hwmA
              have hTA : WA.cell? ⟨wr.heap.size + 1, 3, none⟩ = some (.slice ad (x.nf i) fc) := by simp [World.cell?, hTb]
              have hBx := hOm.box
              have hcon := Tryz.contains19 (hAm.next hwmA) hin (b := w.heap.size) (pi := wr.heap.size) (ps := w.heap.size + 1) (pc := g) (bs := fun k => !(x.tg i k == i) && (!has l (x.tg i k) && !circ R i (x.tg i k))) fun k hk W hb => by
                have hbW := below_next hwmA hb
                have hq := Tryz.waitsR (hAm.next hbW) (heap_kept hbW hBx) hin hk (l := l.map nameL) (ad := oa) (ca := oc) (R := R) (rb := rb) (g := g) (mb := mb) (pi := wr.heap.size) (po := w.heap.size + 1)
                  ⟨by have := heap_kept hb hpi; simp [World.cell?, this], by rw [List.length_map]; exact cell_kept hbW p0, hst.next hbW, (hOm.next hbW).gm, (hOm.next hbW).mat⟩ (by rw [List.length_map]; omega)
                rw [name_has hol h6 (hAm.tgs i hin k hk), bs_eq] at hq
                exact hq
              rw [← Schema.waits_eq hin, hF] at hcon
              generalize hv : waits x.gs R (has l) i = v at hcon
              generalize hu : has l i = u at *
              replace hu := Lib.hid hu
              replace hv := Lib.hid hv
              go_wp2_with fail
              refine Calls.mono hcon ?_
              rintro e w9 ⟨rfl, hb9⟩
              have hw9 := below_next hwmA hb9
              have hP9 := heap_kept hw9 hP
              have hT9 := heap_kept hb9 hTb
              have hN9 := hN.call hw9
              have q0 : w9.cell? ⟨w.heap.size + 1, 0, none⟩ = some (.slice oa l.length oc) := by simp [World.cell?, hP9]
              have q1 : w9.cell? ⟨wr.heap.size + 1, 0, none⟩ = some (.string s1) := by simp [World.cell?, hT9]
              cases v
              · have hcc := hcn oa oc w9 (hst.next hw9)
                go_wp2_with fail
                refine Calls.mono hcc ?_
                rintro e w7 ⟨rfl, rfl⟩
                cases u
                · go_wp2_with (at_builtin; refine append_nameT ?_ (.tmp 89) (.tmp 92) ?_ hN9 i hs1.out.symm ?_ ?_ ?_ ?_; rfl; rfl; omega; rfl; exact ⟨_, rfl, rfl⟩; intro v3 w3 hN3 hp3; obtain ⟨oa3, oc3, hv3, _, _⟩ := own_slice hN3.own; rw [List.length_append] at hv3; subst hv3; have hP3 := hp3.trans hP9; have r0 : w3.cell? ⟨w.heap.size + 1, 0, none⟩ = some (.slice oa l.length oc) := (by simp [World.cell?, hP3]); have r1 : w3.frozen? ⟨w.heap.size + 1, 0, none⟩ = false := (by simp [World.frozen?, hP3]))
                  have hm1 := hnx (next_found hin hu.out hv.out fun j hj => hsp.out j hj)
                  have hPn := block_set (i := 0) (v := .slice oa3 (l.length + 1) oc3) hP3
                  have r2 : (w3.setCell ⟨w.heap.size + 1, 0, none⟩ (.slice oa3 (l.length + 1) oc3)).cell? ⟨w.heap.size + 1, 0, none⟩ = some (.slice oa3 (l.length + 1) oc3) := by simp [World.cell?, hPn]
                  have hNn := hN3.put (i := 0) (x := .slice oa3 (l.length + 1) oc3)
                  go_roundw
                  case rel => exact ⟨m + 1, .slice oa3 (l.length + 1) oc3, by omega, by rw [hm1]; exact hNn, hPn⟩
                  case measure =>
                    show x.n - lenOf ((World.cell? _ _).getD undef) < x.n - lenOf ((World.cell? _ _).getD undef)
                    rw [r2, p0]
                    show x.n - (l.length + 1) < x.n - l.length
                    omega
                · go_wp2_with fail
                  go_roundw
                  case rel =>
                    refine ⟨i + 1, by go_num, by omega, hw9, Lib.hid fun j hj => ?_⟩
                    by_cases e : j = i
                    · rw [e, hu.out]; rfl
                    · exact hsp.out j (by omega)
                  case measure => simp [intOf]; omega
              · go_wp2_with fail
                go_roundw
                case rel =>
                  refine ⟨i + 1, by go_num, by omega, hw9, Lib.hid fun j hj => ?_⟩
                  by_cases e : j = i
                  · rw [e, hv.out]; simp
                  · exact hsp.out j (by omega)
                case measure => simp [intOf]; omega
            · exfalso
              have := next_none (gs := x.gs) (R := R) (n := x.n) (st := has l) fun j hj => hsp.out j (by omega)
              rw [hi0] at this
              cases this
        · have hnl : ¬ l.length < x.n := by have := hll.out; omega
          have hlx := Lib.hid (show l.length = x.n by have := hll.out; omega)
          have hmx := Lib.hid (hme (by omega))
          have r1 : wm.frozen? ⟨w.heap.size + 1, 0, none⟩ = false := by simp [World.frozen?, hP]
          go_wp2_with fail
          have hPn := block_set (i := 0) (v := .slice oa l.length oc) hP
          have r2 : (wm.setCell ⟨w.heap.size + 1, 0, none⟩ (.slice oa l.length oc)).cell? ⟨w.heap.size + 1, 0, none⟩ = some (.slice oa l.length oc) := by simp [World.cell?, hPn]
          have htn : Turns (w.heap.size + 1) wm (wm.setCell ⟨w.heap.size + 1, 0, none⟩ (.slice oa l.length oc)) := (Turns.refl _ _).set
          refine bodyPost_ret (v := .tuple #[.slice oa l.length oc, .slice ca C.length cc]) (by simp [results, Tryz.results7, go_sem, r2]) rfl ⟨oa, oc, ca, cc, ?_, ?_, ?_, ?_⟩
          · rw [hRe.out, hC.out, ← hlx.out]
          · rw [hRe.out, ← hmx.out]
            exact hst.turn htn fun p o e => by have := hob p o e; omega
          · rw [hRe.out, hC.out]
            exact hca.turn (hN.turn.trans htn) hcb
          · exact (hwr.trans (hN.turn.below.mono (by omega))).trans (htn.below.mono (by omega))

end Go.Proofs
