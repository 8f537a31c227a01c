/- ScalarLimits: the trees of its law, their texts; a strings.Builder that grows beside boxes of parts. The condition: the library's table of white space. -/
import Derived.Test.YtkpligcifakmjaaGreatDoorTree
import Derived.Test.YtkpligcifakmjaaGreatDoorShelfM
namespace Go.Proofs
open Go.RowKit Go.Ke

def oneX : Node := leafX 2 1 ⟨#[]⟩
def nulX : Node := leafX 0 0 ⟨#[]⟩
def inX : Node := ⟨6, 0, 0, 0, 0, ⟨#[]⟩, ⟨#[]⟩, ⟨#[]⟩, false⟩

/-- A part of such a tree, with so many parts of its own. -/
def LimX (x : Node) (n : Nat) : Prop := (x = oneX ∧ n = 0) ∨ (x = nulX ∧ n = 0) ∨ (x = opX 17 ∧ n = 1) ∨ (x = inX ∧ 2 ≤ n)

inductive Lim : Ex → Prop
  | mk (x : Node) (l : List Ex) (hx : LimX x l.length) (hl : ∀ a ∈ l, Lim a) : Lim (.mk x l)

theorem Lim.node {e : Ex} (h : Lim e) : LimX e.node e.args.length := by
  cases h with
  | mk x l hx hl => exact hx

theorem Lim.part {e : Ex} (h : Lim e) {i : Nat} (hi : i < e.args.length) : Lim e.args[i] := by
  cases h with
  | mk x l hx hl => exact hl _ (List.getElem_mem hi)

theorem Lim.one : Lim (.mk oneX []) := .mk _ _ (.inl ⟨rfl, rfl⟩) (by simp)
theorem Lim.nul : Lim (.mk nulX []) := .mk _ _ (.inr (.inl ⟨rfl, rfl⟩)) (by simp)
theorem Lim.neg {e : Ex} (h : Lim e) : Lim (.mk (opX 17) [e]) := .mk _ _ (.inr (.inr (.inl ⟨rfl, rfl⟩))) (by simpa using h)
theorem Lim.inn (n : Nat) (h : 2 ≤ n) : Lim (.mk inX (List.replicate n (.mk nulX []))) := .mk _ _ (.inr (.inr (.inr ⟨rfl, by simpa using h⟩))) (fun a ha => by
  rw [List.eq_of_mem_replicate ha]; exact Lim.nul)

/-! The text. -/

def headT (x : Node) : List UInt8 := if x.k = 4 then [110, 101, 103] else [105, 110]
def wordT (x : Node) : List UInt8 := if x.vk = 0 then [110, 117, 108, 108] else [49]

mutual
def textT : Ex → List UInt8
  | .mk x l => if x.k = 1 then wordT x else headT x ++ 40 :: (joinT l ++ [41])
def joinT : List Ex → List UInt8
  | [] => []
  | a :: l => textT a ++ restT l
def restT : List Ex → List UInt8
  | [] => []
  | a :: l => 44 :: (textT a ++ restT l)
end

theorem textT_leaf (e : Ex) (h : e.node.k = 1) : textT e = wordT e.node := by
  obtain ⟨x, l⟩ := e
  unfold textT
  rw [if_pos (show x.k = 1 from h)]; rfl

theorem textT_node (e : Ex) (h : e.node.k ≠ 1) : textT e = headT e.node ++ 40 :: (joinT e.args ++ [41]) := by
  obtain ⟨x, l⟩ := e
  unfold textT
  rw [if_neg (show ¬ x.k = 1 from h)]; rfl

/-- What is left to write ahead of part k. -/
def leftT (l : List Ex) (k : Nat) : List UInt8 := if k = 0 then joinT l else restT (l.drop k)

theorem leftT_zero {l : List Ex} (h : 0 < l.length) : leftT l 0 = textT l[0] ++ leftT l 1 := by
  cases l with
  | nil => simp at h
  | cons a l => rfl

theorem leftT_succ {l : List Ex} {k : Nat} (h : k < l.length) (h0 : k ≠ 0) : leftT l k = 44 :: (textT l[k] ++ leftT l (k + 1)) := by
  unfold leftT
  rw [if_neg h0, if_neg (by omega), List.drop_eq_getElem_cons h]
  rfl

theorem leftT_end {l : List Ex} : leftT l l.length = [] := by
  unfold leftT
  split
  · have : l = [] := List.length_eq_zero_iff.1 (by assumption)
    subst this; rfl
  · rw [List.drop_length]; rfl

/-! What is asked ahead of a text. -/

theorem formN_lim {x : Node} {n : Nat} (h : LimX x n) : formN x n = 0 := by
  rcases h with ⟨rfl, rfl⟩ | ⟨rfl, rfl⟩ | ⟨rfl, rfl⟩ | ⟨rfl, h⟩
  · decide +kernel
  · decide +kernel
  · decide +kernel
  · have : (2 : Int) ≤ n := by omega
    have e : rightArgsB 6 0 n = true := by unfold rightArgsB; simp [this]
    unfold formN inX
    simp only [e]
    decide +kernel

theorem lim_ok {x : Node} {n : Nat} (h : LimX x n) : x.ok := by
  rcases h with ⟨rfl, rfl⟩ | ⟨rfl, rfl⟩ | ⟨rfl, rfl⟩ | ⟨rfl, h⟩ <;> exact ⟨Nat.zero_le _, Nat.zero_le _, Nat.zero_le _⟩

def TextC (d : Nat) : Prop := ∀ (e : Ex) (ad : Option Addr) (cap N : Nat) (w : World), ExIs d w N ad cap e → Lim e → N ≤ w.heap.size → spaceTab w.heap.size w →
    Calls Tryz.prog 132 #[e.v ad cap, .bool false] w fun r w' => r = .returned (.int .i64 0) ∧ Below w.heap.size w w'

set_option maxRecDepth 20000 in
set_option maxHeartbeats 1000000 in
theorem Tryz.textA {d : Nat} (ihd : TextC d) (x : Node) (l : List Ex) (hnode : LimX x l.length) (hparts : ∀ i (hi : i < l.length), Lim l[i]) (ad : Option Addr) (cap N : Nat) (w : World) (hA : NodeArgs d w N ad cap l) (hN : N ≤ w.heap.size) (hJ : spaceTab w.heap.size w) :
    Calls Tryz.prog 132 #[x.v (.slice ad l.length cap), .bool false] w fun r w' => r = .returned (.int .i64 0) ∧ Below w.heap.size w w' := by
  obtain ⟨hl1, hl2, hargs⟩ := hA
  have hok := lim_ok hnode
  have hw0 : Below w.heap.size w (w.alloc (.cells (x.cells (.slice ad l.length cap)) 57)) := (Below.refl _ _).alloc (Nat.le_refl _) _
  have hB0 : Box (w.alloc (.cells (x.cells (.slice ad l.length cap)) 57)) w.heap.size x (.slice ad l.length cap) := Box.new _ _ _
  have hs0 := ex_alloc_size w (.cells (x.cells (.slice ad l.length cap)) 57)
  unfold Node.v
  go_enter Tryz.func132, Tryz.ntmps132
  go_upto_region 1 with fail
  generalize w.alloc (.cells (x.cells (.slice ad l.length cap)) 57) = W1 at hB0 hw0 hs0 ⊢
  have c9 := hB0.is.c9
  go_wp2_with fail
  clear c9
  go_loopw [23] (fun i wr => ∃ k : Nat, i = .int .i64 k ∧ k ≤ l.length ∧ Below W1.heap.size W1 wr) (fun i _ => l.length - (intOf i).toNat)
  case atStart => exact ⟨0, rfl, Nat.zero_le _, Below.refl _ _⟩
  case round =>
    obtain ⟨k, rfl, hk, hwr1⟩ := hrel
    have hwr := below_next hw0 hwr1
    by_cases hlt : k < l.length
    · obtain ⟨pa, po, bd, bc, rfl, hpa, hca, hex⟩ := hargs k hlt
      obtain ⟨d0, d1, d2, d3, d4, d5, d6, d7, d8, d9, d10, d11, d12⟩ := hca.of (hwr.block pa (by omega))
      have hs2 := hwr.size
      have ha2 : Below w.heap.size w (wr.alloc (.cells (l[k].node.cells (.slice bd l[k].args.length bc)) 57)) := hwr.alloc hs2 _
      have ih := ihd l[k] bd bc N (wr.alloc (.cells (l[k].node.cells (.slice bd l[k].args.length bc)) 57)) (hex.below (ha2.mono hN)) (hparts k hlt) (by rw [ex_alloc_size]; omega) (Lib.tabBelow_of_tabIs (hJ.on ha2).here)
      have hs1 := hwr1.size
      go_wp2_with (first | (go_at_call 132; refine ih.mono ?_; rintro r w2 ⟨rfl, hb3⟩))
      go_roundw
      case rel => exact ⟨k + 1, by go_num, by omega, (hwr1.alloc hs1 _).trans (hb3.mono (by rw [ex_alloc_size]; omega))⟩
      case measure => simp [intOf]; omega
    · have hfm := Tryz.formOf x ad l.length cap wr hok (Lib.tabBelow_of_tabIs (hJ.on hwr).here)
      rw [formN_lim hnode] at hfm
      have hrn := fun W => Tryz.rightN 17 0 W
      rw [show rightNB 17 0 = true from rfl] at hrn
      have hB := hB0.next hwr1
      clear hparts hargs hB0 ihd hok
      unfold Node.v at hfm
      generalize l.length = n at *
      rcases hnode with ⟨rfl, -⟩ | ⟨rfl, -⟩ | ⟨rfl, -⟩ | ⟨rfl, -⟩
      all_goals
        obtain ⟨c0, c1, c2, c3, c4, c5, c6, c7, c8, c9, c10, c11, c12⟩ := hB.is
        simp only [oneX, nulX, leafX, opX, inX] at c0 c1 c2 c3 c4 c5 c6 c7 c8 hfm hB
        unfold Node.cells at hfm
        simp only at hfm
        go_wp2_with (first
          | (go_at_call 119; with_reducible refine Calls.mono hfm ?_; rintro r w2 ⟨rfl, hb2⟩; have hB2 := hB.next hb2; have hw2 := below_next hwr hb2; clear c0 c1 c2 c3 c4 c5 c6 c7 c8 c9 c10 c11 c12; obtain ⟨c0, c1, c2, c3, c4, c5, c6, c7, c8, c9, c10, c11, c12⟩ := hB2.is; simp only at c0 c1 c2 c3 c4 c5 c6 c7 c8)
          | (go_at_call 121; refine (hrn _).mono ?_; rintro r w3 ⟨rfl, rfl⟩))
        go_ret
        exact ⟨rfl, hw2⟩

theorem Tryz.textOf : ∀ d, TextC d
  | 0 => fun _ _ _ _ _ h => h.elim
  | d + 1 => fun e ad cap N w h hlim hN hJ => by
    have hparts : ∀ i (hi : i < e.args.length), Lim e.args[i] := fun i hi => hlim.part hi
    have hnode := hlim.node
    obtain ⟨x, l⟩ := e
    exact Tryz.textA (Tryz.textOf d) x l hnode hparts ad cap N w ⟨h.2.1, h.2.2.1, h.2.2.2⟩ hN hJ
end Go.Proofs

namespace Go.Proofs
open Go.RowKit Go.Ke Go.Lib

theorem Tryz.info5' : (Tryz.prog.info? 5).map (fun i => (i.zero, i.size, i.bytes)) = some (some (.int .u8 0), 1, 1) := by kernel_rfl

theorem Boxes.refl (t : TypeId) (w : World) : Boxes t w w := ⟨Nat.le_refl _, fun _ _ _ h => h⟩
theorem Boxes.trans {t : TypeId} {a b c : World} (h : Boxes t a b) (k : Boxes t b c) : Boxes t a c := ⟨Nat.le_trans h.1 k.1, fun g cs fr hg => k.2 g cs fr (h.2 g cs fr hg)⟩
theorem Boxes.of {t : TypeId} {w w' : World} (h : Below w.heap.size w w') : Boxes t w w' := ⟨h.size, fun g _ _ hg => (h.block g (Array.getElem?_eq_some_iff.1 hg).1).trans hg⟩
theorem Boxes.set {t u : TypeId} {w : World} {b : Nat} {cs : Array Value} (hb : w.heap[b]? = some (.cells cs u (0, 0))) (hne : t ≠ u) (i : Nat) (v : Value) : Boxes t w (w.setCell ⟨b, i, none⟩ v) := by
  refine ⟨by simp [World.setCell], fun g ds fr hg => (block_set_ne ?_).trans hg⟩
  rintro rfl
  rw [hb] at hg
  simp only [Option.some.injEq, Obj.cells.injEq] at hg
  exact hne hg.2.1.symm

theorem Box.boxes {w w' : World} {g : Nat} {x : Node} {a : Value} (h : Box w g x a) (hb : Boxes 57 w w') : Box w' g x a := hb.2 _ _ _ h

theorem bat_call {T e : TypeId} {B b : Nat} {p : Value} {bs : List Value} {w w' : World} (h : BuilderAt T e B b p bs w) (hb : Below w.heap.size w w') : BuilderAt T e B b p bs w' := by
  have hlt := h.lt
  obtain ⟨hB, v, hbk, hown, hne⟩ := h
  exact ⟨hB, v, (hb.block _ hlt).trans hbk, hown.kept (grown_of_below hb none) (by cases hv : v.ownBlock <;> simp), hne⟩

/-- A builder that holds some bytes; of what was there nothing below B has turned, and no box of a part. -/
structure Wr (B b : Nat) (bs : List UInt8) (w0 w : World) : Prop where
  is : IsBuilder 113 5 B b (byteCells bs) w
  below : Below B w0 w
  boxes : Boxes 57 w0 w
  le : B ≤ w0.heap.size

theorem Wr.call {B b : Nat} {bs : List UInt8} {w0 w w' : World} (h : Wr B b bs w0 w) (hb : Below w.heap.size w w') : Wr B b bs w0 w' :=
  ⟨h.is.elim (fun k => .inl (bat_call k hb)) (fun k => .inr (bat_call k hb)), h.below.trans (hb.mono (Nat.le_trans h.le h.boxes.1)), h.boxes.trans (Boxes.of hb), h.le⟩

theorem Wr.alloc {B b : Nat} {bs : List UInt8} {w0 w : World} (h : Wr B b bs w0 w) (o : Obj) : Wr B b bs w0 (w.alloc o) := h.call ((Below.refl _ _).alloc (Nat.le_refl _) o)

theorem Wr.next {B b : Nat} {bs cs : List UInt8} {w0 w w' : World} (h : Wr B b bs w0 w) (k : Wr B b cs w w') : Wr B b cs w0 w' :=
  ⟨k.is, h.below.trans k.below, h.boxes.trans k.boxes, h.le⟩

theorem Wr.size {B b : Nat} {bs : List UInt8} {w0 w : World} (h : Wr B b bs w0 w) : B ≤ w.heap.size := Nat.le_trans h.le h.boxes.1

set_option maxRecDepth 20000 in
theorem Tryz.copyCheckW {B b : Nat} {bs : List UInt8} {w : World} (h : IsBuilder 113 5 B b (byteCells bs) w) :
    Calls Tryz.prog 139 #[.pointer (some ⟨b, 0, none⟩)] w fun e w' => e = .returned (.tuple #[]) ∧ BuilderAt 113 5 B b (.pointer (some ⟨b, 0, none⟩)) (byteCells bs) w' ∧ Below B w w' ∧ Boxes 57 w w' := by
  rcases h with h | h
  · refine (Tryz.Builder_copyCheck_fresh b w h.cell0 h.shape h.frozen0).mono ?_
    rintro e w' ⟨rfl, rfl⟩
    obtain ⟨hB, v, hbk, hown, hne⟩ := h
    exact ⟨rfl, BuilderAt.used ⟨hB, v, hbk, hown, hne⟩ _, (Below.refl _ _).setCell hB _, Boxes.set hbk (by decide) _ _⟩
  · refine (Tryz.Builder_copyCheck_used b w h.cell0).mono ?_
    rintro e w' ⟨rfl, rfl⟩
    exact ⟨rfl, h, Below.refl _ _, Boxes.refl _ _⟩

theorem own_slice {w : World} {B : Nat} {e : TypeId} {sz : Nat} {v : Value} {n : Nat} {xs : List Value} (h : w.ownsRow B e sz v n xs) : ∃ ao cap, v = .slice ao n cap := by
  rcases h.2 with ⟨rfl, rfl⟩ | ⟨g, cap, cur, rfl, _⟩
  · exact ⟨_, _, rfl⟩
  · exact ⟨_, _, rfl⟩

set_option maxRecDepth 20000 in
set_option maxHeartbeats 1000000 in
theorem Tryz.writeStr {B b : Nat} {bs : List UInt8} {w0 w : World} (s : ByteArray) (h : Wr B b bs w0 w) (hlen : bs.length + s.size ≤ 100000000) :
    Calls Tryz.prog 93 #[.pointer (some ⟨b, 0, none⟩), .string s] w fun e w' => e = .returned (.tuple #[.int .i64 s.size, .nilIface]) ∧ Wr B b (bs ++ s.data.toList) w0 w' := by
  obtain ⟨i0, hi, hz0, hz1, hz2⟩ := info_parts Tryz.info5'
  have hc := Tryz.copyCheckW h.is
  have hBw := h.size
  go_enter Tryz.func93, Tryz.ntmps93
  go_wp2_with (go_at_call 139; refine hc.mono ?_)
  rintro e w1 ⟨rfl, h1, hb1, hx1⟩
  have hlt := h1.lt
  obtain ⟨hB, v, hbk, hown, hne⟩ := h1
  have c0 : w1.cell? ⟨b, 0, none⟩ = some (.pointer (some ⟨b, 0, none⟩)) := by rw [Lib.cell_of_heap hbk]; rfl
  have c1 : w1.cell? ⟨b, 1, none⟩ = some v := by rw [Lib.cell_of_heap hbk]; rfl
  have hbs := hb1.size
  rw [byteCells_length] at hown
  go_wp2_with (at_builtin; refine Lib.wpList_append_own_string _ rfl (.tmp 12) (.tmp 13) 43 9 rfl B 5 i0 Tryz.underlying43 Tryz.underlying9 hi hz0 hz1 hz2 v bs.length (byteCells bs) rfl hown s rfl ?c3 ?c4 ?c5 ?_)
  case c3 => unfold maxLen; omega
  case c4 => omega
  case c5 => omega
  intro v' w2 hown' hgrow _
  have hb2 : w2.heap[b]? = some (.cells #[.pointer (some ⟨b, 0, none⟩), v] 113 (0, 0)) := (hgrow.block b hlt (fun e => hne e.symm)).trans hbk
  have d0 : w2.cell? ⟨b, 0, none⟩ = some (.pointer (some ⟨b, 0, none⟩)) := by rw [Lib.cell_of_heap hb2]; rfl
  have d1 : w2.cell? ⟨b, 1, none⟩ = some v := by rw [Lib.cell_of_heap hb2]; rfl
  have f1 : w2.frozen? ⟨b, 1, none⟩ = false := Lib.frozen_of_heap hb2 1
  obtain ⟨ao, cap, rfl⟩ := own_slice hown'
  go_wp2
  go_ret2
  have hO : Own B 5 1 v bs.length (byteCells bs) w w1 := ⟨hown, hb1, by omega⟩
  have hx2 : Boxes 57 w1 w2 := hO.boxes hgrow (by decide)
  refine ⟨rfl, .inr ?_, ?_, ?_, h.le⟩
  · refine Lib.BuilderAt.put (T := 113) (e := 5) hB hb2 (bs' := byteCells (bs ++ s.data.toList)) ?_ (by decide)
    rw [byteCells_length, byteCells_append, List.length_append]
    have : s.data.toList.length = s.size := Array.length_toList (xs := s.data)
    rw [this]
    exact hown'
  · exact h.below.trans ((hO.grown hown' hgrow).2.1.setCell (p := ⟨b, 1, none⟩) hB _)
  · exact h.boxes.trans (hx1.trans (hx2.trans (Boxes.set hb2 (by decide) _ _)))

theorem append_byte2 {P : Program} {ops : Array Oper} {rest : List Oper} {o : Oper} {a : Act} {Q : Exit → Act → World → Prop} (hgd : o.guard = none) (s x : Operand) (t : TypeId)
    (ho : o.op = .call { callee := .builtin .append, args := #[s, x], argTypes := #[t, t] })
    (B : Nat) (e : TypeId) (i : TypeInfo) (ht : P.underlying t = some (.slice e)) (hi : P.info? e = some i) (hz : i.zero = some (.int .u8 0)) (hsize : i.size = 1) (hby : i.bytes = 1)
    (v : Value) (n : Nat) (xs : List Value) (hs : a.eval s = v) (W0 w0 : World) (c : Int) (hb : Own B e 1 v n xs W0 w0)
    (hx : a.eval x = .slice (some ⟨w0.heap.size, 0, none⟩) 1 1) (hlen : n + 1 ≤ 140737488355328)
    (h : ∀ v' w', Own B e 1 v' (n + 1) (xs ++ [.int .u8 c]) W0 w' → (∀ u, u ≠ e → Boxes u w0 w') → wpList P ops Q rest (a.put o.dst v') w') : wpList P ops Q (o :: rest) a (w0.alloc (.cells #[.int .u8 c] e)) := by
  have hb' := hb.alloc (.cells #[.int .u8 c] e)
  refine wpList_append_own _ hgd s x t ho B e i (.int .u8 0) 1 1 ht hi hz hsize hby rfl (by decide) v n xs hs hb'.1 ⟨w0.heap.size, 0, none⟩ 1 1 [.int .u8 c] hx rfl ?_ ?_ (by unfold maxLen; omega) (by omega) hb'.2.2 ?_
  · intro j y hj
    match j, hj with
    | 0, hj => simp at hj; subst hj; simp [Addr.add]
    | (j + 1), hj => simp at hj
  · intro y hy; simp at hy; subst hy; rfl
  · intro v' w' ho' hg _
    exact h v' w' (hb'.grown ho' hg) fun u hne => (Boxes.of ((Below.refl _ _).alloc (Nat.le_refl _) _)).trans (hb'.boxes hg hne)

set_option maxRecDepth 20000 in
set_option maxHeartbeats 1000000 in
theorem Tryz.writeByte {B b : Nat} {bs : List UInt8} {w0 w : World} (c : UInt8) (h : Wr B b bs w0 w) (hlen : bs.length + 1 ≤ 100000000) :
    Calls Tryz.prog 175 #[.pointer (some ⟨b, 0, none⟩), .int .u8 c.toNat] w fun e w' => e = .returned .nilIface ∧ Wr B b (bs ++ [c]) w0 w' := by
  obtain ⟨i0, hi, hz0, hz1, hz2⟩ := info_parts Tryz.info5'
  have hc := Tryz.copyCheckW h.is
  have hBw := h.size
  obtain ⟨n, hn⟩ : ∃ n : Int, n = c.toNat := ⟨_, rfl⟩
  have hcell : byteCells [c] = [.int .u8 n] := by rw [hn]; rfl
  rw [← hn]
  clear hn
  go_enter Tryz.func175, Tryz.ntmps175
  go_wp2_with (go_at_call 139; refine hc.mono ?_)
  rintro e w1 ⟨rfl, h1, hb1, hx1⟩
  have hlt := h1.lt
  obtain ⟨hB, v, hbk, hown, hne⟩ := h1
  have c0 : w1.cell? ⟨b, 0, none⟩ = some (.pointer (some ⟨b, 0, none⟩)) := by rw [Lib.cell_of_heap hbk]; rfl
  have c1 : w1.cell? ⟨b, 1, none⟩ = some v := by rw [Lib.cell_of_heap hbk]; rfl
  have hbs := hb1.size
  rw [byteCells_length] at hown
  have hO : Own B 5 1 v bs.length (byteCells bs) w w1 := ⟨hown, hb1, by omega⟩
  go_wp2_with (at_builtin; refine append_byte2 rfl (.tmp 11) (.tmp 13) 43 rfl B 5 i0 Tryz.underlying43 hi hz0 hz1 hz2 v bs.length (byteCells bs) rfl w w1 n hO rfl ?c3 ?_)
  case c3 => omega
  intro v' w2 hO2 hbx2
  have hbk2 : Boxes 113 w1 w2 := hbx2 113 (by decide)
  have hb2 : w2.heap[b]? = some (.cells #[.pointer (some ⟨b, 0, none⟩), v] 113 (0, 0)) := hbk2.2 _ _ _ hbk
  have hx2 : Boxes 57 w1 w2 := hbx2 57 (by decide)
  clear hbx2 hbk2
  have d0 : w2.cell? ⟨b, 0, none⟩ = some (.pointer (some ⟨b, 0, none⟩)) := by rw [Lib.cell_of_heap hb2]; rfl
  have d1 : w2.cell? ⟨b, 1, none⟩ = some v := by rw [Lib.cell_of_heap hb2]; rfl
  have f1 : w2.frozen? ⟨b, 1, none⟩ = false := Lib.frozen_of_heap hb2 1
  obtain ⟨ao, cap, rfl⟩ := own_slice hO2.1
  go_wp2
  go_ret
  refine ⟨rfl, .inr ?_, ?_, ?_, h.le⟩
  · refine Lib.BuilderAt.put (T := 113) (e := 5) hB hb2 (bs' := byteCells (bs ++ [c])) ?_ (by decide)
    rw [byteCells_length, byteCells_append, hcell, List.length_append]
    exact hO2.1
  · exact h.below.trans (hO2.2.1.setCell (p := ⟨b, 1, none⟩) hB _)
  · exact h.boxes.trans (hx1.trans (hx2.trans (Boxes.set hb2 (by decide) _ _)))
end Go.Proofs
