/- Of package dumbmake: Stream.Kinds; a row of columns. No condition. -/
import Derived.Test.YtkpligcifakmjaaGreatDoorIntM
import Derived.Test.YtkpligcifakmjaaGreatDoorRowM
namespace Go.Proofs
open Go.RowKit Go.Ke

/-- A row of numbers that the call owns. -/
def IntRow (L : Nat) (W : World) (v : Value) (l : List Int) : Prop := W.ownsRow L 3 1 v l.length (intCells l)

theorem IntRow.nil (L : Nat) (W : World) : IntRow L W (.slice none 0 0) [] := World.ownsRow_nil _ _ _ _

theorem IntRow.turn {L g : Nat} {W W' : World} {v : Value} {l : List Int} (h : IntRow L W v l) (ht : Turns g W W') (hg : g < L) : IntRow L W' v l := by
  refine World.ownsRow.kept (row := some g) h ⟨ht.below.os, ht.below.tape, ht.below.output, ht.size, fun k hk hkg => ht.same k hk (fun e => hkg (by rw [e]))⟩ (.inr fun e => ?_)
  have := (World.ownsRow.lt h g e).1
  omega

theorem IntRow.call {L : Nat} {W W' : World} {v : Value} {l : List Int} (h : IntRow L W v l) (hb : Below W.heap.size W W') : IntRow L W' v l :=
  World.ownsRow.kept h (grown_of_below hb none) (by cases hv : v.ownBlock <;> simp)

/-- Of a call that gathers numbers. -/
structure Kn (g N : Nat) (zad : Option Addr) (zs : List Int) (zcap L : Nat) (w W : World) (a : Int) (v : Value) (l : List Int) : Prop where
  live : Live W g N zad zs zcap a
  row : IntRow L W v l
  turns : Turns g w W
  lt : g < L
  base : L ≤ w.heap.size

theorem Kn.turn {g N : Nat} {zad : Option Addr} {zs : List Int} {zcap L : Nat} {w W W' : World} {a b : Int} {v : Value} {l : List Int} (h : Kn g N zad zs zcap L w W a v l) (ht : Turns g W W') (hl : Live W' g N zad zs zcap b) : Kn g N zad zs zcap L w W' b v l :=
  ⟨hl, h.row.turn ht h.lt, h.turns.trans ht, h.lt, h.base⟩

theorem append_intR {ops : Array Oper} {rest : List Oper} {o : Oper} {A : Act} {Q : Exit → Act → World → Prop} (hgd : o.guard = none) (s x : Operand)
    (ho : o.op = .call { callee := .builtin .append, args := #[s, x], argTypes := #[28, 28] })
    {g N : Nat} {zad : Option Addr} {zs : List Int} {zcap L : Nat} {w w0 : World} {a : Int} {v : Value} {l : List Int} (h : Kn g N zad zs zcap L w w0 a v l) (c : Int) (hlen : l.length + 1 ≤ 1000000) (hs : A.eval s = v)
    (hx : ∃ G, A.eval x = .slice (some ⟨G, 0, none⟩) 1 1 ∧ w0.heap.size = G) (hLw : L = w.heap.size)
    (hK : ∀ v' w', Kn g N zad zs zcap L w w' a v' (l ++ [c]) → wpList Tryz.prog ops Q rest (A.put o.dst v') w') : wpList Tryz.prog ops Q (o :: rest) A (w0.alloc (.cells #[.int .i64 c] 3)) := by
  obtain ⟨G, hx, rfl⟩ := hx
  obtain ⟨i, hi, hz, hsi, hb⟩ := info_parts Tryz.info3'
  have hal := (Below.refl w0.heap.size w0).alloc (Nat.le_refl _) (.cells #[.int .i64 c] 3)
  have hsz := ex_alloc_size w0 (.cells #[.int .i64 c] 3)
  have hrow := h.row.call hal
  have hts := h.turns.size
  have hlt := h.lt
  have hbase := h.base
  have hT := h.turns.trans (Turns.of (g := g) hal (by omega))
  refine wpList_append_own _ hgd s x 28 ho L 3 i (.int .i64 0) 1 8 Tryz.underlying28 hi hz hsi hb rfl (by decide) v l.length (intCells l) hs hrow ⟨w0.heap.size, 0, none⟩ 1 1 [.int .i64 c] hx rfl ?_ ?_ (by unfold maxLen; omega) (by omega) (by omega) ?_
  · intro j y hj
    match j, hj with
    | 0, hj => simp at hj; subst hj; simp [Addr.add]
    | (j + 1), hj => simp at hj
  · intro y hy; simp at hy; subst hy; rfl
  · intro v' w' ho' hg _
    have hr : ∀ k, v.ownBlock = some k → L ≤ k := fun k hk => (World.ownsRow.lt hrow k hk).1
    have hbl : Below L (w0.alloc (.cells #[.int .i64 c] 3)) w' := ⟨hg.os, hg.tape, hg.output, hg.size, fun k hk => hg.block k (by omega) (fun e => by have := hr k e.symm; omega)⟩
    have hl0 := h.live.call hal
    have hle := hl0.le
    refine hK v' w' ⟨⟨(hbl.block _ hlt).trans hl0.st, hl0.ints.below (hbl.mono (by omega)), hl0.le, hl0.len, hl0.pos⟩, ?_, hT.grown hg (fun k hk => by have := hr k hk; omega) (by omega), hlt, hbase⟩
    show w'.ownsRow L 3 1 v' (l ++ [c]).length (intCells (l ++ [c]))
    rw [List.length_append, intCells_snoc]
    exact ho'

set_option maxHeartbeats 1000000 in
/-- Stream.Kinds. -/
theorem Tryz.kindsG {w : World} {g N : Nat} {zad : Option Addr} {zs : List Int} {zcap : Nat} {a : Int} (h : Live w g N zad zs zcap a) (ha : a ≤ 60000) :
    Calls Tryz.prog 78 #[.pointer (some ⟨g, 0, none⟩)] w fun e w' => ∃ v l b, e = .returned v ∧ l.length ≤ 3 ∧ (∀ x ∈ l, 1 ≤ x ∧ x ≤ 4) ∧ b ≤ a + 4 ∧ Kn g N zad zs zcap w.heap.size w w' b v l := by
  have hg := h.lt
  go_enter Tryz.func78, Tryz.ntmps78
  go_wp2_with fail
  refine (Tryz.nextL h (by omega) 4 (by omega) (by omega)).mono ?_
  rintro e W1 ⟨r, hr1, hr2, rfl, hL, hT⟩
  have hK : Kn g N zad zs zcap w.heap.size w W1 (a + 1) (.slice none 0 0) [] := ⟨hL, IntRow.nil _ _, hT, hg, Nat.le_refl _⟩
  clear hL hT
  go_wp2_with fail
  go_loopw [3, 6] (fun v i wr => ∃ (k : Nat) (l : List Int) (b : Int), i = .int .i64 k ∧ (k : Int) ≤ r ∧ l.length = k ∧ (∀ x ∈ l, 1 ≤ x ∧ x ≤ 4) ∧ b ≤ a + 1 + k ∧ Kn g N zad zs zcap w.heap.size w wr b v l) (fun _ i _ => r.toNat - (intOf i).toNat)
  case atStart => exact ⟨0, [], a + 1, rfl, by omega, rfl, by simp, by omega, hK⟩
  case round =>
    obtain ⟨k, l, b, rfl, hk, hl, hx, hb, hK'⟩ := hrel
    clear hK
    by_cases hlt : (k : Int) < r
    · go_wp2_with fail
      refine (Tryz.kindL hK'.live (by omega)).mono ?_
      rintro e W2 ⟨c, hc1, hc2, rfl, hL, hT⟩
      have hK2 := hK'.turn hT hL
      clear hK' hL hT
      go_wp2_with (at_builtin; refine append_intR ?_ (.tmp 8) (.tmp 11) ?_ hK2 c (by omega) ?_ ?_ rfl ?_; rfl; rfl; rfl; exact ⟨_, rfl, rfl⟩; intro v3 w3 hK3)
      go_roundw
      case rel => exact ⟨k + 1, l ++ [c], b + 1, by go_num, by omega, by simp; omega, by intro x hx2; rw [List.mem_append] at hx2; rcases hx2 with hx2 | hx2; exact hx x hx2; rw [List.mem_singleton] at hx2; subst hx2; exact ⟨hc1, hc2⟩, by omega, hK3⟩
      case measure => simp [intOf]; omega
    · have hl3 : l.length ≤ 3 := by omega
      have hb3 : b ≤ a + 4 := by omega
      clear hl hb hk
      go_wp2_with fail
      go_ret
      exact ⟨_, rfl, l, hl3, hx, b, hb3, hK'⟩
end Go.Proofs

namespace Go.Proofs
open Go.RowKit Go.Ke

theorem Tryz.info75' : (Tryz.prog.info? 75).map (fun i => (i.zero, i.size, i.bytes)) = some (some (.agg #[.string ⟨#[]⟩, .string ⟨#[]⟩, .int .i64 0]), 3, 40) := by kernel_rfl

theorem Tryz.underlying52' : Tryz.prog.underlying 52 = some (.slice 75) := by kernel_rfl

def colsC : List Col → List Value
  | [] => []
  | c :: l => [.string c.src, .string c.name, .int .i64 c.kind] ++ colsC l

theorem colsC_append (l k : List Col) : colsC (l ++ k) = colsC l ++ colsC k := by
  induction l with
  | nil => rfl
  | cons t l ih => simp only [List.cons_append, colsC, ih, List.append_assoc]

theorem colsC_at : ∀ (l : List Col) (i : Nat) (h : i < l.length), (colsC l)[i * 3]? = some (.string l[i].src) ∧ (colsC l)[i * 3 + 1]? = some (.string l[i].name) ∧ (colsC l)[i * 3 + 2]? = some (.int .i64 l[i].kind)
  | [], i, h => by simp at h
  | c :: l, 0, _ => by simp [colsC]
  | c :: l, i + 1, h => by
    have ih := colsC_at l i (by simpa using h)
    have e0 : (i + 1) * 3 = i * 3 + 3 := by omega
    have e1 : (i + 1) * 3 + 1 = i * 3 + 1 + 3 := by omega
    have e2 : (i + 1) * 3 + 2 = i * 3 + 2 + 3 := by omega
    rw [e0]
    simp only [colsC, List.getElem_cons_succ]
    refine ⟨?_, ?_, ?_⟩
    · rw [List.getElem?_append_right (by simp)]; simpa using ih.1
    · rw [show i * 3 + 3 + 1 = i * 3 + 1 + 3 by omega, List.getElem?_append_right (by simp)]; simpa using ih.2.1
    · rw [show i * 3 + 3 + 2 = i * 3 + 2 + 3 by omega, List.getElem?_append_right (by simp)]; simpa using ih.2.2

/-- Of a call that gathers columns. -/
structure Cn (g N : Nat) (zad : Option Addr) (zs : List Int) (zcap L : Nat) (w W : World) (a : Int) (v : Value) (l : List Col) : Prop where
  live : Live W g N zad zs zcap a
  row : W.ownsRow L 75 3 v l.length (colsC l)
  turns : Turns g w W
  lt : g < L
  base : L = w.heap.size

theorem Cn.turn {g N : Nat} {zad : Option Addr} {zs : List Int} {zcap L : Nat} {w W W' : World} {a b : Int} {v : Value} {l : List Col} (h : Cn g N zad zs zcap L w W a v l) (ht : Turns g W W') (hl : Live W' g N zad zs zcap b) : Cn g N zad zs zcap L w W' b v l := by
  refine ⟨hl, World.ownsRow.kept (row := some g) h.row ⟨ht.below.os, ht.below.tape, ht.below.output, ht.size, fun k hk hkg => ht.same k hk (fun e => hkg (by rw [e]))⟩ (.inr fun e => ?_), h.turns.trans ht, h.lt, h.base⟩
  have := (World.ownsRow.lt h.row g e).1
  have := h.lt
  omega

theorem Cn.call {g N : Nat} {zad : Option Addr} {zs : List Int} {zcap L : Nat} {w W W' : World} {a : Int} {v : Value} {l : List Col} (h : Cn g N zad zs zcap L w W a v l) (hb : Below W.heap.size W W') : Cn g N zad zs zcap L w W' a v l :=
  h.turn (Turns.of hb (Nat.le_of_lt h.live.lt)) (h.live.call hb)

/-- A column that has just been laid is appended. -/
theorem Cn.append {g N : Nat} {zad : Option Addr} {zs : List Int} {zcap L : Nat} {w w0 : World} {a : Int} {v : Value} {l : List Col} (h : Cn g N zad zs zcap L w w0 a v l) {o : Oper} {A : Act} {K : Act → World → Prop} {Q : Exit → Act → World → Prop} (s z : Operand)
    (ho : o.op = .call { callee := .builtin .append, args := #[s, z], argTypes := #[52, 52] }) (hs : A.eval s = v) (c : Col) (hlen : l.length + 1 ≤ 1000000)
    (hx : A.eval z = .slice (some ⟨w0.heap.size, 0, none⟩) 1 1)
    (hK : ∀ v' w', Cn g N zad zs zcap L w w' a v' (l ++ [c]) → K (A.put o.dst v') w') : o.wp Tryz.prog A (w0.alloc (.cells #[.string c.src, .string c.name, .int .i64 c.kind] 75)) K Q := by
  obtain ⟨i, hi, hz, hsi, hb⟩ := info_parts Tryz.info75'
  have hal := (Below.refl w0.heap.size w0).alloc (Nat.le_refl _) (.cells #[.string c.src, .string c.name, .int .i64 c.kind] 75)
  have hsz := ex_alloc_size w0 (.cells #[.string c.src, .string c.name, .int .i64 c.kind] 75)
  have hC := h.call hal
  have hts := h.turns.size
  have hlt := h.lt
  have hbase := h.base
  have hn := heap_alloc_new w0 (.cells #[.string c.src, .string c.name, .int .i64 c.kind] 75)
  refine wp_append_own2 _ s z 52 ho L 75 i _ 3 40 Tryz.underlying52' hi hz hsi hb rfl (by decide) v l.length (colsC l) hs hC.row ⟨w0.heap.size, 0, none⟩ 1 1 (colsC [c]) hx rfl ?_ ?_ (by decide) (by unfold maxLen; omega) (by omega) (by omega) ?_
  · intro j u hj
    have e : (⟨w0.heap.size, 0, none⟩ : Addr).add j = ⟨w0.heap.size, 0 + j, none⟩ := by unfold Addr.add; split <;> simp_all
    rw [e, Nat.zero_add]
    simp only [World.cell?, hn]
    simpa [colsC] using hj
  · intro u hu
    simp [colsC] at hu
    rcases hu with rfl | rfl | rfl <;> rfl
  · intro v' w' ho' hg _
    have hr : ∀ k, v.ownBlock = some k → L ≤ k := fun k hk => (World.ownsRow.lt hC.row k hk).1
    have hbl : Below L (w0.alloc (.cells #[.string c.src, .string c.name, .int .i64 c.kind] 75)) w' := ⟨hg.os, hg.tape, hg.output, hg.size, fun k hk => hg.block k (by omega) (fun e => by have := hr k e.symm; omega)⟩
    have hle := hC.live.le
    refine hK v' w' ⟨⟨(hbl.block _ hlt).trans hC.live.st, hC.live.ints.below (hbl.mono (by omega)), hC.live.le, hC.live.len, hC.live.pos⟩, ?_, hC.turns.grown hg (fun k hk => by have := hr k hk; omega) (by omega), hlt, hbase⟩
    rw [List.length_append, colsC_append]
    exact ho'

theorem Cn.cols {g N : Nat} {zad : Option Addr} {zs : List Int} {zcap L : Nat} {w W : World} {a : Int} {v : Value} {l : List Col} (h : Cn g N zad zs zcap L w W a v l) : ∃ ad cap, v = .slice ad l.length cap ∧ ColsAt W W.heap.size ad l := by
  rcases h.row.2 with ⟨hv, hn⟩ | ⟨gr, cap, cur, hv, hb, hg, _⟩
  · exact ⟨none, 0, by rw [hv, hn], fun i hi => by omega⟩
  · refine ⟨some ⟨gr, 0, none⟩, cap, hv, fun i hi => ⟨gr, 0, rfl, blk_lt hg, ?_⟩⟩
    have hc := World.ownsRow.cells h.row (g := gr) (by rw [hv]; rfl)
    have ha : ∀ j, (⟨gr, 0, none⟩ : Addr).add j = ⟨gr, 0 + j, none⟩ := fun j => by unfold Addr.add; split <;> simp_all
    obtain ⟨e0, e1, e2⟩ := colsC_at l i hi
    have c0 := hc _ _ e0
    have c1 := hc _ _ e1
    have c2 := hc _ _ e2
    rw [ha] at c0 c1 c2
    exact ⟨c0, c1, c2⟩

theorem Kn.ints {g N : Nat} {zad : Option Addr} {zs : List Int} {zcap L : Nat} {w W : World} {a : Int} {v : Value} {l : List Int} (h : Kn g N zad zs zcap L w W a v l) (hr : ∀ x ∈ l, -9223372036854775808 ≤ x ∧ x ≤ 9223372036854775807) : ∃ ad cap, v = .slice ad l.length cap ∧ IntsNe W W.heap.size g ad l := by
  have hrow : W.ownsRow L 3 1 v l.length (intCells l) := h.row
  rcases hrow.2 with ⟨hv, hn⟩ | ⟨gr, cap, cur, hv, hb, hg, _⟩
  · exact ⟨none, 0, by rw [hv, hn], fun i hi => by omega⟩
  · have hlt := h.lt
    refine ⟨some ⟨gr, 0, none⟩, cap, hv, fun i hi => ⟨gr, 0, rfl, blk_lt hg, by omega, ?_, hr _ (List.getElem_mem hi)⟩⟩
    have hc := World.ownsRow.cells hrow (g := gr) (by rw [hv]; rfl)
    have ha : ∀ j, (⟨gr, 0, none⟩ : Addr).add j = ⟨gr, 0 + j, none⟩ := fun j => by unfold Addr.add; split <;> simp_all
    have c0 := hc i (.int .i64 l[i]) (by simp [intCells, hi])
    rw [ha] at c0
    exact c0
end Go.Proofs
