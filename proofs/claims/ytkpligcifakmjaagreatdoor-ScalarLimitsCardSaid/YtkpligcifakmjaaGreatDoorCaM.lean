/- Of both packages: kinds of cases; columns. No condition. -/
import Derived.Test.YtkpligcifakmjaaGreatDoorIntM
import Derived.Test.YtkpligcifakmjaaGreatDoorSkFit
namespace Go.Proofs
open Go.RowKit Go.Ke

def casesG (fin : List Int → Int × Bool) : List Int → List Int → Int × Bool
  | acc, [] => fin acc
  | acc, [_] => fin acc
  | acc, a :: b :: l => if (a == 0) || (a == 1) then casesG fin (acc ++ [b]) l else (0, false)

theorem casesG_step {fin : List Int → Int × Bool} {l : List Int} {k : Nat} (acc : List Int) (h : k + 1 < l.length) : casesG fin acc (l.drop k) = if (l[k] == 0) || (l[k] == 1) then casesG fin (acc ++ [l[k + 1]]) (l.drop (k + 2)) else (0, false) := by
  rw [List.drop_eq_getElem_cons (show k < l.length by omega), List.drop_eq_getElem_cons h]
  rfl

theorem casesG_end {fin : List Int → Int × Bool} {l : List Int} {k : Nat} (acc : List Int) (h : l.length ≤ k + 1) : casesG fin acc (l.drop k) = fin acc := by
  by_cases h2 : l.length ≤ k
  · rw [List.drop_of_length_le h2]; rfl
  · rw [List.drop_eq_getElem_cons (show k < l.length by omega), List.drop_of_length_le (show l.length ≤ k + 1 by omega)]
    rfl

def caseN (l : List Int) : Int × Bool := casesG (commonF 0) [l.getD (l.length - 1) 0] l
def caseR (l : List Int) : Int × Bool := casesG (fitsF 0) [l.getD (l.length - 1) 0] l

theorem Own.one (w : World) (c : Int) : Own w.heap.size 3 1 (.slice (some ⟨w.heap.size, 0, none⟩) 1 1) 1 (intCells [c]) w (w.alloc (.cells #[.int .i64 c] 3)) :=
  ⟨⟨rfl, .inr ⟨w.heap.size, 1, #[.int .i64 c], rfl, Nat.le_refl _, heap_alloc_new w _, Nat.le_refl _, by unfold maxLen; omega, rfl, rfl⟩⟩, (Below.refl _ _).alloc (Nat.le_refl _) _, by rw [ex_alloc_size]; omega⟩

theorem IntsAt.drop {w : World} {N : Nat} {ad ad' : Option Addr} {l : List Int} {k : Nat} (h : IntsAt w N ad l) (ha : k < l.length → ∀ p o, ad = some ⟨p, o, none⟩ → ad' = some ⟨p, o + k, none⟩) : IntsAt w N ad' (l.drop k) := by
  intro i hi
  rw [List.length_drop] at hi
  obtain ⟨p, o, h1, h2, h3, h4⟩ := h (k + i) (by omega)
  refine ⟨p, o + k, ha (by omega) p o h1, h2, ?_, ?_⟩
  · rw [List.getElem_drop, Nat.add_assoc]; exact h3
  · rw [List.getElem_drop]; exact h4

theorem Own.snoc {B : Nat} {v : Value} {acc : List Int} {b : Int} {W0 w : World} (h : Own B 3 1 v (acc.length + 1) (intCells acc ++ [.int .i64 b]) W0 w) : Own B 3 1 v (acc ++ [b]).length (intCells (acc ++ [b])) W0 w := by
  rw [intCells_snoc, List.length_append]; exact h

theorem kinds_snoc {l : List Int} {b : Int} (h : ∀ k ∈ l, 0 ≤ k ∧ k ≤ 4) (hb : 0 ≤ b ∧ b ≤ 4) : ∀ k ∈ l ++ [b], 0 ≤ k ∧ k ≤ 4 := by
  intro k hk
  rw [List.mem_append] at hk
  rcases hk with hk | hk
  · exact h k hk
  · simp at hk; subst hk; exact hb

theorem kinds_range {l : List Int} (h : ∀ k ∈ l, 0 ≤ k ∧ k ≤ 4) : inRangeL l := fun k hk => by have := h k hk; omega

set_option maxRecDepth 20000 in
set_option maxHeartbeats 1000000 in
theorem Tryz.cases (l : List Int) (ad : Option Addr) (cl N : Nat) (w : World) (hl : IntsAt w N ad l) (hN : N ≤ w.heap.size) (h1 : 1 ≤ l.length) (hcl : l.length ≤ cl) (hll : l.length ≤ 100000000) (hr : ∀ k ∈ l, 0 ≤ k ∧ k ≤ 4) :
    Calls Tryz.prog 123 #[.slice ad l.length cl] w fun e w' => e = .returned (.tuple #[.int .i64 (caseN l).1, .bool (caseN l).2]) ∧ Below w.heap.size w w' := by
  obtain ⟨i3, hi3, hz3, hs3, hb3⟩ := info_parts Tryz.info3'
  obtain ⟨p, o, rfl, hp, c, _, _⟩ := hl (l.length - 1) (by omega)
  have e0 : l.getD (l.length - 1) 0 = l[l.length - 1] := by rw [List.getD_eq_getElem?_getD, List.getElem?_eq_getElem (by omega)]; rfl
  have hrz := hr _ (List.getElem_mem (show l.length - 1 < l.length by omega))
  have hspec : caseN l = casesG (commonF 0) [l[l.length - 1]] l := by unfold caseN; rw [e0]
  rw [hspec]
  clear hspec e0
  generalize l[l.length - 1] = z at *
  have hO0 := Own.one w z
  have hix : ((l.length : Int) - 1) = ((l.length - 1 : Nat) : Int) := by omega
  go_enter Tryz.func123, Tryz.ntmps123
  go_wp2_with fail
  generalize hV : (Value.slice (some ⟨w.heap.size, 0, none⟩) 1 1) = V0 at hO0 ⊢
  clear hV
  generalize w.alloc (.cells #[.int .i64 z] 3) = W0 at hO0 ⊢
  clear hix c
  go_loopw [4, 5] (fun v i wr => ∃ (k : Nat) (acc : List Int), i = .int .i64 k ∧ k ≤ l.length ∧ acc.length ≤ k + 1 ∧ (∀ k ∈ acc, 0 ≤ k ∧ k ≤ 4) ∧ Own w.heap.size 3 1 v acc.length (intCells acc) w wr ∧ Hid (casesG (commonF 0) acc (l.drop k) = casesG (commonF 0) [z] l)) (fun _ i _ => l.length - (intOf i).toNat)
  case atStart => exact ⟨0, [z], rfl, Nat.zero_le _, Nat.le_refl _, by simpa using hrz, hO0, Lib.hid rfl⟩
  case round =>
    obtain ⟨k, acc, rfl, hk, hacc, hra, hO, hsp⟩ := hrel
    have hwr := hO.2.1
    by_cases hlt : k + 1 < l.length
    · have hst := casesG_step (fin := commonF 0) acc hlt
      rw [hsp.out] at hst
      have hl1 := hl.below (hwr.mono hN)
      obtain ⟨p1, o1, he1, hp1, c1, _, _⟩ := hl1 (k + 1) hlt
      simp only [Option.some.injEq, Addr.mk.injEq, and_true] at he1
      obtain ⟨rfl, rfl⟩ := he1
      have hf : fitsB (l.drop k) [1] = ((l[k] == 0) || (l[k] == 1)) := by rw [List.drop_eq_getElem_cons (show k < l.length by omega)]; simp [fitsB]
      have hb1 := hr _ (List.getElem_mem hlt)
      have hl2 : IntsAt wr N (some ⟨p, o + k, none⟩) (l.drop k) := hl1.drop (fun _ p' o' h => by cases h; rfl)
      have hsz := hO.2.2
      have hwA : Below wr.heap.size wr (wr.alloc (.cells #[.int .i64 1] 3)) := (Below.refl _ _).alloc (Nat.le_refl _) _
      have hfc := Tryz.fits (l.drop k) [1] (some ⟨p, o + k, none⟩) _ (cl - k) 1 _ N _ (hl2.below (hwA.mono (by omega))) (ints1 wr 1 (by omega)) (by simp; omega) (by simp; omega)
      rw [hf, List.length_drop] at hfc
      generalize l[k] = a at *
      generalize l[k + 1] = b at *
      have hne : ¬ cl = k := by omega
      generalize ((a == 0) || (a == 1)) = u at *
      have hO1 := (hO.call hwA)
      have c1A := (hwA.cell (p := ⟨p, o + (k + 1), none⟩) (show p < wr.heap.size by omega)).trans c1
      clear hl2 hl1
      cases u with
      | false =>
        replace hst := Lib.hid hst
        go_wp2_with (first | (go_at_call 160; refine hfc.mono ?_; rintro e w2 ⟨rfl, rfl⟩))
        go_ret2
        rw [hst.out]
        exact ⟨rfl, hO1.2.1⟩
      | true =>
        rw [if_pos rfl] at hst
        replace hst := Lib.hid hst
        go_wp2_with (first
          | (go_at_call 160; refine hfc.mono ?_; rintro e w2 ⟨rfl, rfl⟩)
          | (at_builtin; refine append_int ?_ (.tmp 26) (.tmp 32) 28 ?_ w.heap.size 3 i3 Tryz.underlying28 hi3 hz3 hs3 hb3 _ _ _ w _ hO1 b (by omega) ?_ ?_ ?_; rfl; rfl; rfl; exact ⟨_, rfl, ex_alloc_size _ _⟩; intro v3 w3 hO3 hbx; clear hbx hO1 hwA hO hfc))
        go_roundw
        case rel => exact ⟨k + 2, acc ++ [b], by go_num, by omega, by simp; omega, kinds_snoc hra hb1, hO3.snoc, Lib.hid hst.out.symm⟩
        case measure => simp [intOf]; omega
    · have hst := casesG_end (fin := commonF 0) (l := l) (k := k) acc (by omega)
      rw [hsp.out] at hst
      replace hst := Lib.hid hst
      obtain ⟨ad', cap', rfl, hI⟩ := hO.ints (kinds_range hra)
      have hc := Tryz.common acc ad' cap' wr _ hI (by omega)
      go_wp2_with (first | (go_at_call 124; refine hc.mono ?_; rintro e w2 ⟨rfl, rfl⟩))
      go_ret2
      rw [hst.out]
      exact ⟨rfl, hwr⟩

set_option maxRecDepth 20000 in
set_option maxHeartbeats 1000000 in
theorem Tryz.caseKind5 (x : Node) (hx : (x.k == 6) = false) (ea : Value) (l : List Int) (ad : Option Addr) (cl N : Nat) (w : World) (hl : IntsAt w N ad l) (hN : N ≤ w.heap.size) (h1 : 1 ≤ l.length) (hll : l.length ≤ 100000000) (hr : ∀ k ∈ l, 0 ≤ k ∧ k ≤ 4) :
    Calls Tryz.prog 129 #[x.v ea, .slice ad l.length cl] w fun e w' => e = .returned (.tuple #[.int .i64 (caseR l).1, .bool (caseR l).2]) ∧ Below w.heap.size w w' := by
  obtain ⟨i3, hi3, hz3, hs3, hb3⟩ := info_parts Tryz.info3'
  obtain ⟨p, o, rfl, hp, c, _, _⟩ := hl (l.length - 1) (by omega)
  have e0 : l.getD (l.length - 1) 0 = l[l.length - 1] := by rw [List.getD_eq_getElem?_getD, List.getElem?_eq_getElem (by omega)]; rfl
  have hrz := hr _ (List.getElem_mem (show l.length - 1 < l.length by omega))
  have hspec : caseR l = casesG (fitsF 0) [l[l.length - 1]] l := by unfold caseR; rw [e0]
  rw [hspec]
  clear hspec e0
  generalize l[l.length - 1] = z at *
  have hw0 : Below w.heap.size w (w.alloc (.cells (x.cells ea) 57)) := (Below.refl _ _).alloc (Nat.le_refl _) _
  have hB0 : Box (w.alloc (.cells (x.cells ea) 57)) w.heap.size x ea := Box.new _ _ _
  have hs0 := ex_alloc_size w (.cells (x.cells ea) 57)
  have hix : ((l.length : Int) - 1) = ((l.length - 1 : Nat) : Int) := by omega
  unfold Node.v
  go_enter Tryz.func129, Tryz.ntmps129
  go_upto_region 1 with fail
  generalize w.alloc (.cells (x.cells ea) 57) = W1 at hB0 hw0 hs0 ⊢
  replace hs0 : w.heap.size < W1.heap.size := by omega
  have c : W1.cell? ⟨p, o + (l.length - 1), none⟩ = some (.int .i64 z) := (hw0.cell (p := ⟨p, o + (l.length - 1), none⟩) (Nat.lt_of_lt_of_le hp hN)).trans c
  have c0 := hB0.is.c0
  have hO0 : Own w.heap.size 3 1 (.slice (some ⟨W1.heap.size, 0, none⟩) 1 1) 1 (intCells [z]) w (W1.alloc (.cells #[.int .i64 z] 3)) :=
    ⟨⟨rfl, .inr ⟨W1.heap.size, 1, #[.int .i64 z], rfl, by omega, heap_alloc_new W1 _, Nat.le_refl _, by unfold maxLen; omega, rfl, rfl⟩⟩, hw0.alloc (by omega) _, by rw [ex_alloc_size]; omega⟩
  go_wp2_with fail
  generalize hV : (Value.slice (some ⟨W1.heap.size, 0, none⟩) 1 1) = V0 at hO0 ⊢
  clear hV
  generalize W1.alloc (.cells #[.int .i64 z] 3) = W0 at hO0 ⊢
  clear hix c c0 hB0 hw0 hs0
  go_loopw [8, 9] (fun v i wr => ∃ (k : Nat) (acc : List Int), i = .int .i64 k ∧ k ≤ l.length ∧ acc.length ≤ k + 1 ∧ (∀ k ∈ acc, 0 ≤ k ∧ k ≤ 4) ∧ Own w.heap.size 3 1 v acc.length (intCells acc) w wr ∧ Hid (casesG (fitsF 0) acc (l.drop k) = casesG (fitsF 0) [z] l)) (fun _ i _ => l.length - (intOf i).toNat)
  case atStart => exact ⟨0, [z], rfl, Nat.zero_le _, Nat.le_refl _, by simpa using hrz, hO0, Lib.hid rfl⟩
  case round =>
    obtain ⟨k, acc, rfl, hk, hacc, hra, hO, hsp⟩ := hrel
    have hwr := hO.2.1
    by_cases hlt : k + 1 < l.length
    · have hst := casesG_step (fin := fitsF 0) acc hlt
      rw [hsp.out] at hst
      have hl1 := hl.below (hwr.mono hN)
      obtain ⟨p1, o1, he1, hp1, c1, _, _⟩ := hl1 (k + 1) hlt
      simp only [Option.some.injEq, Addr.mk.injEq, and_true] at he1
      obtain ⟨rfl, rfl⟩ := he1
      obtain ⟨p1, o1, he1, hp1, c2, _, _⟩ := hl1 k (by omega)
      simp only [Option.some.injEq, Addr.mk.injEq, and_true] at he1
      obtain ⟨rfl, rfl⟩ := he1
      have hb1 := hr _ (List.getElem_mem hlt)
      have ha1 := hr _ (List.getElem_mem (show k < l.length by omega))
      have hsz := hO.2.2
      have hkl : k < l.length := by omega
      generalize l[k] = a at *
      generalize l[k + 1] = b at *
      have hwA : Below wr.heap.size wr (wr.alloc (.cells #[.int .i64 a, .int .i64 1] 3)) := (Below.refl _ _).alloc (Nat.le_refl _) _
      have hfc := Tryz.fitsR [a, 1] (some ⟨wr.heap.size, 0, none⟩) 2 _ _ (ints2 wr a 1 (by omega) (by omega)) (by simp)
      rw [fits2 a 1 (by decide)] at hfc
      generalize (fitsF 0 [a, 1]).1 = y at hfc
      generalize ((a == 0) || (a == 1)) = u at *
      have hO1 := (hO.call hwA)
      have c1A := (hwA.cell (p := ⟨p, o + (k + 1), none⟩) (show p < wr.heap.size by omega)).trans c1
      clear hl1
      cases u with
      | false =>
        replace hst := Lib.hid hst
        go_wp2_with (first | (go_at_call 168; refine hfc.mono ?_; rintro e w2 ⟨rfl, rfl⟩))
        go_ret2
        rw [hst.out]
        exact ⟨rfl, hO1.2.1⟩
      | true =>
        rw [if_pos rfl] at hst
        replace hst := Lib.hid hst
        go_wp2_with (first
          | (go_at_call 168; refine hfc.mono ?_; rintro e w2 ⟨rfl, rfl⟩)
          | (at_builtin; refine append_int ?_ (.tmp 46) (.tmp 52) 28 ?_ w.heap.size 3 i3 Tryz.underlying28 hi3 hz3 hs3 hb3 _ _ _ w _ hO1 b (by omega) ?_ ?_ ?_; rfl; rfl; rfl; exact ⟨_, rfl, ex_alloc_size _ _⟩; intro v3 w3 hO3 hbx; clear hbx hO1 hwA hO hfc))
        go_roundw
        case rel => exact ⟨k + 2, acc ++ [b], by go_num, by omega, by simp; omega, kinds_snoc hra hb1, hO3.snoc, Lib.hid hst.out.symm⟩
        case measure => simp [intOf]; omega
    · have hst := casesG_end (fin := fitsF 0) (l := l) (k := k) acc (by omega)
      rw [hsp.out] at hst
      replace hst := Lib.hid hst
      obtain ⟨ad', cap', rfl, hI⟩ := hO.ints (kinds_range hra)
      have hc := Tryz.fitsR acc ad' cap' wr _ hI (by omega)
      go_wp2_with (first | (go_at_call 168; refine hc.mono ?_; rintro e w2 ⟨rfl, rfl⟩))
      go_ret2
      rw [hst.out]
      exact ⟨rfl, hwr⟩

set_option maxRecDepth 20000 in
theorem Tryz.caseKind6 (x : Node) (hx : (x.k == 6) = true) (ea : Value) (l : List Int) (ad : Option Addr) (cl N : Nat) (w : World) (hl : IntsAt w N ad l) (hN : N ≤ w.heap.size) (hll : l.length ≤ 100000000) :
    Calls Tryz.prog 129 #[x.v ea, .slice ad l.length cl] w fun e w' => e = .returned (.tuple #[.int .i64 1, .bool (fitsF 0 l).2]) ∧ Below w.heap.size w w' := by
  have hw0 : Below w.heap.size w (w.alloc (.cells (x.cells ea) 57)) := (Below.refl _ _).alloc (Nat.le_refl _) _
  have hB0 : Box (w.alloc (.cells (x.cells ea) 57)) w.heap.size x ea := Box.new _ _ _
  unfold Node.v
  go_enter Tryz.func129, Tryz.ntmps129
  go_upto_region 1 with fail
  generalize w.alloc (.cells (x.cells ea) 57) = W1 at hB0 hw0 ⊢
  have c0 := hB0.is.c0
  have hc := Tryz.fitsR l ad cl W1 N (hl.below (hw0.mono hN)) (by omega)
  go_wp2_with (first | (go_at_call 168; refine hc.mono ?_; rintro e w2 ⟨rfl, rfl⟩))
  go_ret2
  exact ⟨rfl, hw0⟩
end Go.Proofs

namespace Go.Proofs
open Go.RowKit Go.Ke

structure Col where
  src : ByteArray
  name : ByteArray
  kind : Int

/-- At the address lie the columns of a list, all in blocks below N. -/
def ColsAt (w : World) (N : Nat) (ad : Option Addr) (l : List Col) : Prop :=
  ∀ i (h : i < l.length), ∃ p o, ad = some ⟨p, o, none⟩ ∧ p < N ∧ w.cell? ⟨p, o + i * 3, none⟩ = some (.string l[i].src) ∧ w.cell? ⟨p, o + i * 3 + 1, none⟩ = some (.string l[i].name) ∧ w.cell? ⟨p, o + i * 3 + 2, none⟩ = some (.int .i64 l[i].kind)

theorem ColsAt.below {w w' : World} {N : Nat} {ad : Option Addr} {l : List Col} (h : ColsAt w N ad l) (hb : Below N w w') : ColsAt w' N ad l := by
  intro i hi
  obtain ⟨p, o, h1, h2, h3, h4, h5⟩ := h i hi
  exact ⟨p, o, h1, h2, (hb.cell h2).trans h3, (hb.cell h2).trans h4, (hb.cell h2).trans h5⟩

def colAt (s n : ByteArray) : Nat → List Col → Int
  | _, [] => -1
  | k, c :: l => if (c.src.toList == s.toList) && (c.name.toList == n.toList) then k else colAt s n (k + 1) l

theorem colAt_step {s n : ByteArray} {l : List Col} {k : Nat} (h : k < l.length) : colAt s n k (l.drop k) = if (l[k].src.toList == s.toList) && (l[k].name.toList == n.toList) then (k : Int) else colAt s n (k + 1) (l.drop (k + 1)) := by
  rw [List.drop_eq_getElem_cons h]
  rfl

theorem colAt_range (s n : ByteArray) : ∀ (l : List Col) (k : Nat), (colAt s n k l = -1) ∨ (∃ j, colAt s n k l = (j : Nat) ∧ k ≤ j ∧ j < k + l.length)
  | [], k => .inl rfl
  | c :: l, k => by
    unfold colAt
    split
    · exact .inr ⟨k, rfl, Nat.le_refl _, by simp⟩
    · rcases colAt_range s n l (k + 1) with h | ⟨j, h1, h2, h3⟩
      · exact .inl h
      · exact .inr ⟨j, h1, by omega, by simp; omega⟩

set_option maxRecDepth 20000 in
theorem Tryz.column (cs : List Col) (ad : Option Addr) (cc : Nat) (x : Node) (ea : Value) (N : Nat) (w : World) (hc : ColsAt w N ad cs) (hN : N ≤ w.heap.size) (hlen : cs.length ≤ 1000000) :
    Calls Tryz.prog 120 #[.slice ad cs.length cc, x.v ea] w fun e w' => e = .returned (.int .i64 (colAt x.src x.name 0 cs)) ∧ Below w.heap.size w w' := by
  have hw0 : Below w.heap.size w (w.alloc (.cells (x.cells ea) 57)) := (Below.refl _ _).alloc (Nat.le_refl _) _
  have hB0 : Box (w.alloc (.cells (x.cells ea) 57)) w.heap.size x ea := Box.new _ _ _
  have hs0 := ex_alloc_size w (.cells (x.cells ea) 57)
  unfold Node.v
  go_enter Tryz.func120, Tryz.ntmps120
  go_upto_region 1 with fail
  generalize w.alloc (.cells (x.cells ea) 57) = W1 at hB0 hw0 hs0 ⊢
  go_wp2_with fail
  go_loopw [9] (fun i wr => ∃ k : Nat, i = .int .i64 k ∧ k ≤ cs.length ∧ Box wr w.heap.size x ea ∧ w.heap.size < wr.heap.size ∧ Below w.heap.size w wr ∧ Hid (colAt x.src x.name k (cs.drop k) = colAt x.src x.name 0 cs)) (fun i _ => cs.length - (intOf i).toNat)
  case atStart => exact ⟨0, rfl, Nat.zero_le _, hB0, by omega, hw0, Lib.hid rfl⟩
  case round =>
    obtain ⟨k, rfl, hk, hB, hsz, hwr, hsp⟩ := hrel
    by_cases hlt : k < cs.length
    · obtain ⟨p, o, rfl, hp, d0, d1, d2⟩ := (hc.below (hwr.mono hN)) k hlt
      have hst := colAt_step (s := x.src) (n := x.name) hlt
      rw [hsp.out] at hst
      generalize cs[k] = c at *
      obtain ⟨c4, c5⟩ : wr.cell? ⟨w.heap.size, 6, none⟩ = some (.string x.src) ∧ wr.cell? ⟨w.heap.size, 7, none⟩ = some (.string x.name) := ⟨hB.is.c6, hB.is.c7⟩
      have hwA : Below wr.heap.size wr (wr.alloc (.cells #[.string c.src, .string c.name, .int .i64 c.kind] 75)) := (Below.refl _ _).alloc (Nat.le_refl _) _
      have hBA := hB.next hwA
      have hsA := hwA.size
      by_cases h1 : c.src.toList = x.src.toList
      · by_cases h2 : c.name.toList = x.name.toList
        · rw [if_pos (by simp [h1, h2])] at hst
          replace hst := Lib.hid hst
          have g1 : (c.src.toList == x.src.toList) = true := by simpa using h1
          have g2 : (c.name.toList == x.name.toList) = true := by simpa using h2
          clear h1 h2 hsp
          go_wp2_with fail
          go_ret
          rw [hst.out]
          exact ⟨rfl, below_next hwr hwA⟩
        · rw [if_neg (by simp [h2])] at hst
          replace hst := Lib.hid hst
          have g1 : (c.src.toList == x.src.toList) = true := by simpa using h1
          have g2 : (c.name.toList == x.name.toList) = false := by simpa using h2
          clear h1 h2 hsp
          go_wp2_with fail
          go_roundw
          case rel => exact ⟨k + 1, by go_num, by omega, hBA, by omega, below_next hwr hwA, Lib.hid hst.out.symm⟩
          case measure => simp [intOf]; omega
      · rw [if_neg (by simp [h1])] at hst
        replace hst := Lib.hid hst
        have g1 : (c.src.toList == x.src.toList) = false := by simpa using h1
        clear h1 hsp
        go_wp2_with fail
        go_roundw
        case rel => exact ⟨k + 1, by go_num, by omega, hBA, by omega, below_next hwr hwA, Lib.hid hst.out.symm⟩
        case measure => simp [intOf]; omega
    · have hst := hsp.out
      rw [List.drop_of_length_le (by omega)] at hst
      replace hst := Lib.hid hst
      go_wp2_with fail
      go_ret
      rw [← hst.out]
      exact ⟨rfl, hwr⟩

set_option maxRecDepth 20000 in
theorem Tryz.found1 (c : Col) (s n : ByteArray) (g h : Nat) (w : World) (hg : w.heap[g]? = some (.cells #[.string s] 9)) (hh : w.heap[h]? = some (.cells #[.string n] 9)) :
    Calls Tryz.prog 221 #[.agg #[.string c.src, .string c.name, .int .i64 c.kind], .pointer (some ⟨g, 0, none⟩), .pointer (some ⟨h, 0, none⟩)] w fun e w' => e = .returned (.bool ((c.src.toList == s.toList) && (c.name.toList == n.toList))) ∧ Below w.heap.size w w' := by
  have hwA : Below w.heap.size w (w.alloc (.cells #[.string c.src, .string c.name, .int .i64 c.kind] 75)) := (Below.refl _ _).alloc (Nat.le_refl _) _
  have cg : (w.alloc (.cells #[.string c.src, .string c.name, .int .i64 c.kind] 75)).cell? ⟨g, 0, none⟩ = some (.string s) := by
    have := (hwA.block g (Array.getElem?_eq_some_iff.1 hg).1).trans hg
    simp [World.cell?, this]
  have ch : (w.alloc (.cells #[.string c.src, .string c.name, .int .i64 c.kind] 75)).cell? ⟨h, 0, none⟩ = some (.string n) := by
    have := (hwA.block h (Array.getElem?_eq_some_iff.1 hh).1).trans hh
    simp [World.cell?, this]
  by_cases h1 : c.src.toList = s.toList
  · have g1 : (c.src.toList == s.toList) = true := by simpa using h1
    clear h1
    go_enter Tryz.func221, Tryz.ntmps221
    go_wp2_with fail
    all_goals
      go_ret
      exact ⟨by simp [*], hwA⟩
  · have g1 : (c.src.toList == s.toList) = false := by simpa using h1
    clear h1
    go_enter Tryz.func221, Tryz.ntmps221
    go_wp2_with fail
    all_goals
      go_ret
      exact ⟨by simp [*], hwA⟩

set_option maxRecDepth 20000 in
theorem Tryz.found2 (cs : List Col) (ad : Option Addr) (cc : Nat) (s n : ByteArray) (g h N : Nat) (w : World) (hc : ColsAt w N ad cs) (hN : N ≤ w.heap.size) (hlen : cs.length ≤ 1000000) (hg : w.heap[g]? = some (.cells #[.string s] 9)) (hh : w.heap[h]? = some (.cells #[.string n] 9)) :
    Calls Tryz.prog 220 #[.slice ad cs.length cc, .func (.func 221) #[] #[.pointer (some ⟨g, 0, none⟩), .pointer (some ⟨h, 0, none⟩)]] w fun e w' => e = .returned (.int .i64 (colAt s n 0 cs)) ∧ Below w.heap.size w w' := by
  have hgs := (Array.getElem?_eq_some_iff.1 hg).1
  have hhs := (Array.getElem?_eq_some_iff.1 hh).1
  go_enter Tryz.func220, Tryz.ntmps220
  go_wp2_with fail
  go_loopw [8] (fun i wr => ∃ k : Nat, i = .int .i64 k ∧ k ≤ cs.length ∧ Below w.heap.size w wr ∧ Hid (colAt s n k (cs.drop k) = colAt s n 0 cs)) (fun i _ => cs.length - (intOf i).toNat)
  case atStart => exact ⟨0, rfl, Nat.zero_le _, Below.refl _ _, Lib.hid rfl⟩
  case round =>
    obtain ⟨k, rfl, hk, hwr, hsp⟩ := hrel
    by_cases hlt : k < cs.length
    · obtain ⟨p, o, rfl, hp, d0, d1, d2⟩ := (hc.below (hwr.mono hN)) k hlt
      have hst := colAt_step (s := s) (n := n) hlt
      rw [hsp.out] at hst
      generalize cs[k] = c at *
      have hk1 := Tryz.found1 c s n g h wr ((hwr.block g hgs).trans hg) ((hwr.block h hhs).trans hh)
      generalize ((c.src.toList == s.toList) && (c.name.toList == n.toList)) = u at *
      cases u with
      | true =>
        replace hst := Lib.hid hst
        clear hsp
        go_wp2_with (first | (go_at_call 221; refine hk1.mono ?_; rintro e w2 ⟨rfl, hb⟩))
        go_ret
        rw [hst.out]
        exact ⟨rfl, below_next hwr hb⟩
      | false =>
        replace hst := Lib.hid hst
        clear hsp
        go_wp2_with (first | (go_at_call 221; refine hk1.mono ?_; rintro e w2 ⟨rfl, hb⟩))
        go_roundw
        case rel => exact ⟨k + 1, by go_num, by omega, below_next hwr hb, Lib.hid (hst.out.trans (if_neg (by decide))).symm⟩
        case measure => simp [intOf]; omega
    · have hst := hsp.out
      rw [List.drop_of_length_le (by omega)] at hst
      replace hst := Lib.hid hst
      go_wp2_with fail
      go_ret
      rw [← hst.out]
      exact ⟨rfl, hwr⟩

set_option maxRecDepth 20000 in
theorem Tryz.found (cs : List Col) (ad : Option Addr) (cc : Nat) (s n : ByteArray) (N : Nat) (w : World) (hc : ColsAt w N ad cs) (hN : N ≤ w.heap.size) (hlen : cs.length ≤ 1000000) :
    Calls Tryz.prog 165 #[.slice ad cs.length cc, .string s, .string n] w fun e w' => e = .returned (.int .i64 (colAt s n 0 cs)) ∧ Below w.heap.size w w' := by
  have hw0 : Below w.heap.size w ((w.alloc (.cells #[.string s] 9)).alloc (.cells #[.string n] 9)) := ((Below.refl _ _).alloc (Nat.le_refl _) _).alloc (by rw [ex_alloc_size]; omega) _
  have hs1 : ((w.alloc (.cells #[.string s] 9)).alloc (.cells #[.string n] 9)).heap.size = w.heap.size + 2 := by rw [ex_alloc_size, ex_alloc_size]
  have hg : ((w.alloc (.cells #[.string s] 9)).alloc (.cells #[.string n] 9)).heap[w.heap.size]? = some (.cells #[.string s] 9) := (heap_alloc_old _ _ (by rw [ex_alloc_size]; omega)).trans (heap_alloc_new _ _)
  have hh : ((w.alloc (.cells #[.string s] 9)).alloc (.cells #[.string n] 9)).heap[w.heap.size + 1]? = some (.cells #[.string n] 9) := by rw [← ex_alloc_size w (.cells #[.string s] 9)]; exact heap_alloc_new _ _
  go_enter Tryz.func165, Tryz.ntmps165
  go_upto_region 1 with fail
  generalize (w.alloc (.cells #[.string s] 9)).alloc (.cells #[.string n] 9) = W1 at hw0 hs1 hg hh ⊢
  have hk := Tryz.found2 cs ad cc s n w.heap.size (w.heap.size + 1) N W1 (hc.below (hw0.mono hN)) (by omega) hlen hg hh
  go_wp2_with (first | (go_at_call 220; refine hk.mono ?_; rintro e w2 ⟨rfl, hb⟩))
  go_ret
  exact ⟨rfl, below_next hw0 hb⟩

set_option maxRecDepth 20000 in
theorem Tryz.badKind (k : Int) (w : World) : Calls Tryz.prog 84 #[.int .i64 k] w fun e w' => e = .returned (.bool (!inB k 1 4)) ∧ w' = w := by
  go_enter Tryz.func84, Tryz.ntmps84
  go_wp2_with (first | (go_at_call 57; refine (Tryz.within2 _ _ _ _).mono ?_; rintro e w' ⟨rfl, rfl⟩))
  go_ret
  exact ⟨rfl, rfl⟩

def badAt : Nat → List Int → Int
  | _, [] => -1
  | k, c :: l => if inB c 1 4 then badAt (k + 1) l else k

theorem badAt_law : ∀ (l : List Int) (k : Nat), decide (0 ≤ badAt k l) = !l.all fun c => inB c 1 4
  | [], k => rfl
  | c :: l, k => by
    unfold badAt
    rw [List.all_cons]
    cases inB c 1 4 with
    | true => simpa using badAt_law l (k + 1)
    | false => simp

theorem badAt_step {l : List Int} {k : Nat} (h : k < l.length) : badAt k (l.drop k) = if inB l[k] 1 4 then badAt (k + 1) (l.drop (k + 1)) else (k : Int) := by
  rw [List.drop_eq_getElem_cons h]
  rfl

set_option maxRecDepth 20000 in
theorem Tryz.indexBad (l : List Int) (ad : Option Addr) (cl N : Nat) (w : World) (hl : IntsAt w N ad l) (hll : l.length ≤ 1000000) :
    Calls Tryz.prog 125 #[.slice ad l.length cl, .func (.func 84) #[] #[]] w fun e w' => e = .returned (.int .i64 (badAt 0 l)) ∧ w' = w := by
  go_enter Tryz.func125, Tryz.ntmps125
  go_wp2_with fail
  go_loop [8] (fun i => ∃ k : Nat, i = .int .i64 k ∧ k ≤ l.length ∧ Hid (badAt k (l.drop k) = badAt 0 l)) (fun i => l.length - (intOf i).toNat)
  case atStart => exact ⟨0, rfl, Nat.zero_le _, Lib.hid rfl⟩
  case round =>
    obtain ⟨k, rfl, hk, hsp⟩ := hrel
    by_cases hlt : k < l.length
    · obtain ⟨p, o, rfl, hp, d0, _, _⟩ := hl k hlt
      have hst := badAt_step hlt
      rw [hsp.out] at hst
      generalize l[k] = c at *
      have hk1 := Tryz.badKind c w
      generalize inB c 1 4 = u at *
      cases u with
      | false =>
        replace hst := Lib.hid hst
        clear hsp
        go_wp2_with (first | (go_at_call 84; refine hk1.mono ?_; rintro e w2 ⟨rfl, rfl⟩))
        go_ret
        rw [hst.out]
        exact ⟨rfl, rfl⟩
      | true =>
        replace hst := Lib.hid hst
        clear hsp
        go_wp2_with (first | (go_at_call 84; refine hk1.mono ?_; rintro e w2 ⟨rfl, rfl⟩))
        go_round
        case rel => exact ⟨k + 1, by go_num, by omega, Lib.hid (hst.out.trans (if_pos (by trivial))).symm⟩
        case measure => simp [intOf]; omega
    · have hst := hsp.out
      rw [List.drop_of_length_le (by omega)] at hst
      replace hst := Lib.hid hst
      go_wp2_with fail
      go_ret
      rw [← hst.out]
      exact ⟨rfl, rfl⟩

theorem Tryz.containsBad (l : List Int) (ad : Option Addr) (cl N : Nat) (w : World) (hl : IntsAt w N ad l) (hll : l.length ≤ 1000000) :
    Calls Tryz.prog 83 #[.slice ad l.length cl, .func (.func 84) #[] #[]] w fun e w' => e = .returned (.bool (!l.all fun c => inB c 1 4)) ∧ w' = w := by
  have hk := Tryz.indexBad l ad cl N w hl hll
  have hlaw := badAt_law l 0
  go_enter Tryz.func83, Tryz.ntmps83
  go_wp2_with (first | (go_at_call 125; refine hk.mono ?_; rintro e w2 ⟨rfl, rfl⟩))
  all_goals
    go_ret
    exact ⟨by simp [← hlaw], rfl⟩
end Go.Proofs
