/- ValueKept: the law walked. No condition but what the library's variables hold. -/
import Derived.Test.YtmnlcldhhlkpeaaGreatDoorTxtK
import Derived.Test.YtmnlcldhhlkpeaaGreatDoorKf
import Derived.Test.YtmnlcldhhlkpeaaGreatDoorCast
import Derived.Deep.QuietTactic
import Derived.Lib.BytesEntry
import Derived.BigQuiet
import Derived.Test.YtmnlcldhhlkpeaaGreatDoorBack
namespace Go.Proofs
open Go.RowKit

theorem zero_fine : Val.zero.fine = true := by
  have h2 : (⟨#[]⟩ : ByteArray).size = 0 := rfl
  unfold Val.fine formB rangeB printB Val.zero
  simp [h2]

set_option maxRecDepth 20000 in
theorem Tryz.valueL {w : World} {g N : Nat} {ad : Option Addr} {zs : List Int} {cap : Nat} {a : Int} (h : Live w g N ad zs cap a) (ha : a < 80000) (k : Int) (hk : 1 ≤ k ∧ k ≤ 4) :
    Calls Tryz.prog 19 #[.pointer (some ⟨g, 0, none⟩), .int .i64 k] w fun e w' => ∃ (x : Val) (b : Int), x.fine = true ∧ b ≤ a + 7 ∧ e = .returned x.v ∧ Live w' g N ad zs cap b ∧ Turns g w w' := by
  have hg := h.lt
  have hV0 := h.alloc (.cells #[.int .i64 0, .int .i64 0, .string ⟨#[]⟩] 23)
  have hT0 := Turns.new (g := g) (w := w) (.cells #[.int .i64 0, .int .i64 0, .string ⟨#[]⟩] 23) (by omega)
  have hr0 := heap_alloc_new w (.cells #[.int .i64 0, .int .i64 0, .string ⟨#[]⟩] 23)
  have hne : w.heap.size ≠ g := by omega
  go_enter Tryz.func19, Tryz.ntmps19
  go_wp2_with fail
  generalize w.alloc (.cells #[.int .i64 0, .int .i64 0, .string ⟨#[]⟩] 23) = W0 at hV0 hT0 hr0 ⊢
  refine (Tryz.flipL hV0 (by omega) _ (by omega) (by omega)).mono ?_
  rintro e W1 ⟨fl, rfl, hV1, hT1⟩
  have hr1 := hT1.block hr0 hne
  cases fl with
  | true =>
    have hV3 := ((hV1.set (i := 0) (v := .int .i64 Val.zero.k) hg).set (i := 1) (v := .int .i64 Val.zero.n) hg).set (i := 2) (v := .string Val.zero.s) hg
    have hT3 := (((hT0.trans hT1).set (i := 0) (v := .int .i64 Val.zero.k) (Nat.le_refl _) (Nat.le_of_lt hg)).set (i := 1) (v := .int .i64 Val.zero.n) (Nat.le_refl _) (Nat.le_of_lt hg)).set (i := 2) (v := .string Val.zero.s) (Nat.le_refl _) (Nat.le_of_lt hg)
    obtain ⟨⟨z0, z1, z2⟩, y0, y1, y2⟩ := free_zero hr1
    go_wp2_with fail
    exact bodyPost_ret (v := Val.zero.v) (res_box Tryz.results19 rfl (set3_block Val.zero hr1)) rfl (by first | exact ⟨Val.zero, zero_fine, _, by omega, rfl, hV3, hT3⟩ | exact ⟨Val.zero, _, zero_fine, by omega, rfl, hV3, hT3⟩)
  | false =>
    go_wp2_with fail
    refine (Tryz.fullP hV1 (by omega) k hk).mono ?_
    rintro e W2 ⟨x, b, hkk, hf, hb, rfl, hV2, hT2⟩
    clear hkk
    have hr2 := hT2.block hr1 hne
    have hV3 := ((hV2.set (i := 0) (v := .int .i64 x.k) hg).set (i := 1) (v := .int .i64 x.n) hg).set (i := 2) (v := .string x.s) hg
    have hT3 := ((((hT0.trans hT1).trans hT2).set (i := 0) (v := .int .i64 x.k) (Nat.le_refl _) (Nat.le_of_lt hg)).set (i := 1) (v := .int .i64 x.n) (Nat.le_refl _) (Nat.le_of_lt hg)).set (i := 2) (v := .string x.s) (Nat.le_refl _) (Nat.le_of_lt hg)
    obtain ⟨⟨z0, z1, z2⟩, y0, y1, y2⟩ := free_zero hr2
    simp only [Val.v, valV]
    go_wp2_with fail
    exact bodyPost_ret (v := x.v) (res_box Tryz.results19 rfl (set3_block x hr2)) rfl (by first | exact ⟨x, hf, b, by omega, rfl, hV3, hT3⟩ | exact ⟨x, b, hf, by omega, rfl, hV3, hT3⟩)

theorem Tryz.kindL {w : World} {g N : Nat} {ad : Option Addr} {zs : List Int} {cap : Nat} {a : Int} (h : Live w g N ad zs cap a) (ha : a < 1000000) :
    Calls Tryz.prog 20 #[.pointer (some ⟨g, 0, none⟩)] w fun e w' => ∃ r : Int, 1 ≤ r ∧ r ≤ 4 ∧ e = .returned (.int .i64 r) ∧ Live w' g N ad zs cap (a + 1) ∧ Turns g w w' := by
  go_enter Tryz.func20, Tryz.ntmps20
  go_wp2_with (go_at_call 44; refine (Tryz.rangeL h ha _ _ (by omega) (by omega) (by omega)).mono ?_; rintro e w' ⟨r, hr1, hr2, rfl, hl, ht⟩)
  go_ret
  exact ⟨r, hr1, hr2, rfl, hl, ht⟩

/-- The bytes that a slice shows. -/
theorem BytesAt.shown {w : World} {N : Nat} {ad : Option Addr} {L : List UInt8} (h : BytesAt w N ad L) (cap : Nat) : (Extern.Bytes.bytesOf (.slice ad L.length cap)).run Tryz.prog w = .ok ⟨L.toArray⟩ w := by
  cases ad with
  | none =>
    cases L with
    | nil => rfl
    | cons c L => obtain ⟨_, _, h1, _⟩ := h 0 (by simp); cases h1
  | some a =>
    unfold Extern.Bytes.bytesOf
    have := Lib.run_loadBytesX (P := Tryz.prog) w (L.map fun c => (c.toNat : Int)) a .empty (fun j x hj => by
      rw [List.getElem?_map] at hj
      obtain ⟨c, hc, rfl⟩ := Option.map_eq_some_iff.1 hj
      obtain ⟨hl, rfl⟩ := List.getElem?_eq_some_iff.1 hc
      obtain ⟨p, o, h1, _, h3⟩ := h j hl
      cases h1
      rw [show (⟨p, o, none⟩ : Addr).add j = ⟨p, o + j, none⟩ by unfold Addr.add; split <;> simp_all]
      exact h3)
    rw [List.length_map] at this
    rw [this]
    congr 2
    have e1 : Lib.bytesOf (L.map fun c => (c.toNat : Int)) = L := by
      unfold Lib.bytesOf
      rw [List.map_map]
      conv => rhs; rw [← List.map_id L]
      refine List.map_congr_left fun c _ => ?_
      simp
    rw [e1]
    show (#[] : Array UInt8) ++ L.toArray = L.toArray
    simp

set_option maxHeartbeats 1000000 in
set_option maxRecDepth 100000 in
theorem Tryz.compareBytes {w : World} {N M : Nat} {ad bd : Option Addr} {L K : List UInt8} (h : BytesAt w N ad L) (h' : BytesAt w M bd K) (c d : Nat) :
    Calls Tryz.prog 23 #[.slice ad L.length c, .slice bd K.length d] w fun e w' => e = .returned (.int .i64 (Lib.compareBytes L K)) ∧ w' = w := by
  have hx : (Extern.BytealgCompare.compare #[.slice ad L.length c, .slice bd K.length d]).run Tryz.prog w = .ok (.int .i64 (Lib.compareBytes L K)) w := by
    change Sem.run Tryz.prog (do pure (goInt (Extern.BytealgCompare.cmp (← Extern.Bytes.bytesOf (.slice ad L.length c)) (← Extern.Bytes.bytesOf (.slice bd K.length d))))) w = _
    simp only [Sem.run_bind, Sem.run_pure, h.shown, h'.shown, Result.andThen]
    rw [Lib.cmp_eq]
    rfl
  go_enter Tryz.func23, Tryz.ntmps23
  go_wp2
  rw [run_callFunc_extern Tryz.func52 (by kernel_rfl) (by kernel_rfl) (by kernel_rfl) (e := Extern.BytealgCompare.compare) (by kernel_rfl), hx]
  simp only [Result.andThen]
  rw [Oper.upon_value]
  go_wp2
  go_ret
  exact ⟨rfl, rfl⟩

end Go.Proofs

namespace Go.Proofs
open Go.RowKit

set_option maxRecDepth 20000 in
theorem Tryz.equalRows (l : List Val) (ad bd : Option Addr) (ca cb : Nat) (w : World) (ha : RowAt w w.heap.size ad l) (hb : RowAt w w.heap.size bd l) (la : l.length ≤ 9223372036854775807) :
    Calls Tryz.prog 25 #[.slice ad l.length ca, .slice bd l.length cb] w fun e w' => e = .returned (.bool true) ∧ Below w.heap.size w w' := by
  go_enter Tryz.func25, Tryz.ntmps25
  go_wp2
  go_loopw [13] (fun i wr => ∃ k : Nat, i = .int .i64 k ∧ k ≤ l.length ∧ Below w.heap.size w wr) (fun i _ => l.length - (intOf i).toNat)
  case atStart => exact ⟨0, rfl, Nat.zero_le _, Below.refl _ _⟩
  case round =>
    obtain ⟨k, rfl, hka, hw⟩ := hrel
    by_cases hlt : k < l.length
    · obtain ⟨p, o, rfl, hp, c0, c1, c2, sa⟩ := ha.below hw k hlt
      obtain ⟨q, r, rfl, hq, d0, d1, d2, sb⟩ := hb.below hw k hlt
      have hna := same23 l[k]
      go_wp2_with fail
      go_quiet (fail)
      go_wp2_with fail
      go_roundw
      case rel => exact ⟨k + 1, by go_num, by omega, hw.trans ⟨rfl, rfl, rfl, Nat.le_refl _, fun _ _ => rfl⟩⟩
      case measure => simp [intOf]; omega
    · go_wp2_with fail
      go_ret
      exact ⟨rfl, hw⟩

theorem fine_plain {x : Val} (h : x.fine = true) : x.plain = x := by
  unfold Val.plain
  rw [if_pos h]

theorem res_box_two {fn : Func} {t u b : Nat} {tmps : Array Value} {W : World} {y : Val} {z : Value} (hf : fn.results = #[.cell t 23, .tmp u]) (ht : tmps.getD t undef = .pointer (some ⟨b, 0, none⟩)) (hu : tmps.getD u undef = z)
    (h : W.heap[b]? = some (.cells #[.int .i64 y.k, .int .i64 y.n, .string y.s] 23)) : (results fn tmps).run Tryz.prog W = .ok (.tuple #[y.v, z]) W := by
  have c0 : W.cell? ⟨b, 0, none⟩ = some (.int .i64 y.k) := by simp [World.cell?, h]
  have c1 : W.cell? ⟨b, 1, none⟩ = some (.int .i64 y.n) := by simp [World.cell?, h]
  have c2 : W.cell? ⟨b, 2, none⟩ = some (.string y.s) := by simp [World.cell?, h]
  have ht2 : tmps[t]?.getD undef = .pointer (some ⟨b, 0, none⟩) := by rw [← Array.getD_eq_getD_getElem?]; exact ht
  have hu2 : tmps[u]?.getD undef = z := by rw [← Array.getD_eq_getD_getElem?]; exact hu
  simp [results, hf, go_sem, ht2, hu2, c0, c1, c2, Val.v, valV]

set_option maxRecDepth 20000 in
set_option maxHeartbeats 1000000 in
theorem Tryz.readF {N : Nat} (s : ByteArray) (x : Val) (hs : s.size ≤ 900) (hf : x.fine = true) (hx : candV s = x) (hb : showT x = s) (w : World) (hL : Lit N w) (hN : N ≤ w.heap.size) :
    Calls Tryz.prog 26 #[.string s] w fun e w' => e = .returned (.tuple #[x.v, .int .i64 0]) ∧ Below w.heap.size w w' := by
  have hB := BoxAt.new Val.zero (Below.refl w.heap.size w)
  have hL1 := hB.lit hL hN
  have hC := fun W (h1 : Lit N W) (h2 : N ≤ W.heap.size) => Tryz.candF s hs W h1 h2
  rw [hx] at hC
  have hsz := fine_size hf
  have hR : ∀ W, Calls Tryz.prog 56 #[.agg #[.int .i64 x.k, .int .i64 x.n, .string x.s]] W fun e W' => e = .returned (.bool true) ∧ Below W.heap.size W W' := fun W => by
    have := Tryz.right x.k x.n x.s (by omega) W
    rwa [show Val.fine ⟨x.k, x.n, x.s⟩ = true from hf] at this
  have hS : ∀ W, Lit N W → N ≤ W.heap.size → Calls Tryz.prog 27 #[.agg #[.int .i64 x.k, .int .i64 x.n, .string x.s]] W fun e W' => e = .returned (.string s) ∧ Below W.heap.size W W' := fun W h1 h2 => by
    have := Tryz.showF x (by omega) W h1 h2
    rwa [fine_plain hf, hb] at this
  clear hx hb hf hsz
  go_enter Tryz.func26, Tryz.ntmps26
  go_upto_region 1 with fail
  change BoxAt w (w.alloc (.cells #[.int .i64 0, .int .i64 0, .string ⟨#[]⟩] 23)) w.heap.size Val.zero at hB
  change Lit N (w.alloc (.cells #[.int .i64 0, .int .i64 0, .string ⟨#[]⟩] 23)) ∧ N ≤ (w.alloc (.cells #[.int .i64 0, .int .i64 0, .string ⟨#[]⟩] 23)).heap.size at hL1
  generalize w.alloc (.cells #[.int .i64 0, .int .i64 0, .string ⟨#[]⟩] 23) = W at hB hL1 ⊢
  go_wp2_with fail
  refine (hC _ hL1.1 hL1.2).mono ?_
  rintro e w2 ⟨rfl, hb2⟩
  replace hB := hB.next hb2
  have hX := BoxAt.new x hB.hb
  replace hB := hB.alloc (.cells #[.int .i64 x.k, .int .i64 x.n, .string x.s] 23)
  simp only [Val.v, valV]
  go_upto_region 2 with fail
  generalize w2.alloc (.cells #[.int .i64 x.k, .int .i64 x.n, .string x.s] 23) = W3 at hB hX ⊢
  generalize w2.heap.size = g4 at hX ⊢
  generalize w.heap.size = g2 at hB ⊢
  obtain ⟨⟨c0, c1, c2⟩, _⟩ := hX.cells
  go_wp2_with fail
  refine (hR _).mono ?_
  rintro e w3 ⟨rfl, hb3⟩
  replace hB := hB.next hb3
  replace hX := hX.next hb3
  clear c0 c1 c2
  obtain ⟨⟨c0, c1, c2⟩, _⟩ := hX.cells
  go_wp2_with fail
  have hL3 := hX.lit hL hN
  refine (hS _ hL3.1 hL3.2).mono ?_
  rintro e w4 ⟨rfl, hb4⟩
  replace hB := hB.next hb4
  replace hX := hX.next hb4
  clear c0 c1 c2
  obtain ⟨⟨c0, c1, c2⟩, _⟩ := hX.cells
  obtain ⟨_, f0, f1, f2⟩ := hB.cells
  go_wp2_with fail
  exact bodyPost_ret (v := .tuple #[x.v, .int .i64 0]) (res_box_two Tryz.results26 rfl rfl (hB.set x).at') rfl ⟨rfl, (hB.set x).hb⟩

end Go.Proofs

namespace Go.Proofs
open Go.RowKit
open Go.Lib (byteCells strCells)

def AllFine (l : List Val) : Prop := ∀ x ∈ l, x.fine = true

theorem valCells_get : ∀ (l : List Val) (i : Nat) (h : i < l.length), (valCells l)[i * 3]? = some (.int .i64 l[i].k) ∧ (valCells l)[i * 3 + 1]? = some (.int .i64 l[i].n) ∧ (valCells l)[i * 3 + 2]? = some (.string l[i].s)
  | [], _, h => absurd h (by simp)
  | x :: l, 0, _ => ⟨rfl, rfl, rfl⟩
  | x :: l, i + 1, h => by
    have ih := valCells_get l i (by simpa using h)
    have e : valCells (x :: l) = [.int .i64 x.k, .int .i64 x.n, .string x.s] ++ valCells l := rfl
    have e0 : (i + 1) * 3 = i * 3 + 3 := by omega
    have a (j : Nat) : (valCells (x :: l))[j + 3]? = (valCells l)[j]? := by rw [e, List.getElem?_append_right (by simp)]; rfl
    rw [e0, show i * 3 + 3 + 1 = i * 3 + 1 + 3 by omega, show i * 3 + 3 + 2 = i * 3 + 2 + 3 by omega, a, a, a]
    exact ih

/-- At the address lie the values of a list, all in blocks below N and above g. -/
def RowG (w : World) (g N : Nat) (ad : Option Addr) (l : List Val) : Prop :=
  ∀ i (h : i < l.length), ∃ p o, ad = some ⟨p, o, none⟩ ∧ g < p ∧ p < N ∧ w.cell? ⟨p, o + i * 3, none⟩ = some (.int .i64 l[i].k) ∧ w.cell? ⟨p, o + i * 3 + 1, none⟩ = some (.int .i64 l[i].n) ∧ w.cell? ⟨p, o + i * 3 + 2, none⟩ = some (.string l[i].s) ∧ l[i].s.size ≤ 9223372036854775807

theorem RowG.row {w : World} {g N : Nat} {ad : Option Addr} {l : List Val} (h : RowG w g N ad l) : RowAt w N ad l := by
  intro i hi
  obtain ⟨p, o, h1, _, h2, h3⟩ := h i hi
  exact ⟨p, o, h1, h2, h3⟩

theorem RowAt.wide {w : World} {N M : Nat} {ad : Option Addr} {l : List Val} (h : RowAt w N ad l) (hM : N ≤ M) : RowAt w M ad l := by
  intro i hi
  obtain ⟨p, o, h1, h2, h3⟩ := h i hi
  exact ⟨p, o, h1, by omega, h3⟩

theorem RowG.blocks {w w' : World} {g N : Nat} {ad : Option Addr} {l : List Val} (h : RowG w g N ad l) (hb : ∀ k, g < k → k < N → w'.heap[k]? = w.heap[k]?) : RowG w' g N ad l := by
  intro i hi
  obtain ⟨p, o, h1, h2, h3, h4, h5, h6, h7⟩ := h i hi
  have hc (j : Nat) : w'.cell? ⟨p, j, none⟩ = w.cell? ⟨p, j, none⟩ := World.cell?_of_block (hb p h2 h3)
  exact ⟨p, o, h1, h2, h3, (hc _).trans h4, (hc _).trans h5, (hc _).trans h6, h7⟩

theorem RowG.turn {w w' : World} {g N : Nat} {ad : Option Addr} {l : List Val} (h : RowG w g N ad l) (hN : N ≤ w.heap.size) (ht : Turns g w w') : RowG w' g N ad l :=
  h.blocks fun k h1 h2 => ht.same k (by omega) (by omega)

theorem RowG.below {w w' : World} {g N : Nat} {ad : Option Addr} {l : List Val} (h : RowG w g N ad l) (hb : Below N w w') : RowG w' g N ad l :=
  h.blocks fun k _ h2 => hb.block k h2

theorem rowG_of {w : World} {g : Nat} {v : Value} {l : List Val} (h : w.ownsRow (g + 1) 23 3 v l.length (valCells l)) (hf : AllFine l) : ∃ ad cap, v = .slice ad l.length cap ∧ RowG w g w.heap.size ad l := by
  rcases h.2 with ⟨hv, hn⟩ | ⟨p, cap, cur, hv, hb, hg, _⟩
  · refine ⟨none, 0, by rw [hv, hn], fun i hi => ?_⟩
    omega
  · refine ⟨some ⟨p, 0, none⟩, cap, hv, fun i hi => ?_⟩
    have hc (j : Nat) (u : Value) (hu : (valCells l)[j]? = some u) : w.cell? ⟨p, 0 + j, none⟩ = some u := by
      have := h.cells (g := p) (by rw [hv]; rfl) j u hu
      rwa [show (⟨p, 0, none⟩ : Addr).add j = ⟨p, 0 + j, none⟩ by unfold Addr.add; split <;> simp_all] at this
    obtain ⟨c0, c1, c2⟩ := valCells_get l i hi
    have hs := fine_size (hf l[i] (List.getElem_mem hi))
    exact ⟨p, 0, rfl, by omega, (Array.getElem?_eq_some_iff.1 hg).1, hc _ _ c0, hc _ _ c1, hc _ _ c2, by omega⟩

theorem owns_turn {w w' : World} {g B : Nat} {e : TypeId} {sz : Nat} {v : Value} {n : Nat} {xs : List Value} (h : w.ownsRow B e sz v n xs) (hB : g < B) (ht : Turns g w w') : w'.ownsRow B e sz v n xs :=
  h.kept (row := some g) ⟨ht.below.os, ht.below.tape, ht.below.output, ht.size, fun k hk hne => ht.same k hk (fun e => hne (by rw [e]))⟩ (by
    refine .inr fun e => ?_
    have := (own_lt h g e).1
    omega)

theorem Live.keep {w w' : World} {g N B : Nat} {ad : Option Addr} {zs : List Int} {cap : Nat} {a : Int} (h : Live w g N ad zs cap a) (hb : Below B w w') (hg : g < B) : Live w' g N ad zs cap a :=
  ⟨(hb.block _ hg).trans h.st, h.ints.below (hb.mono (by have := h.le; omega)), h.le, h.len, h.pos, h.lit.on (hb.mono (by have := h.le; omega))⟩

theorem fine_snoc {l : List Val} {x : Val} (h : AllFine l) (hx : x.fine = true) : AllFine (l ++ [x]) := by
  intro y hy
  rcases List.mem_append.1 hy with hy | hy
  · exact h y hy
  · rw [List.mem_singleton.1 hy]; exact hx

theorem owns_wide {w : World} {B C : Nat} {e : TypeId} {sz : Nat} {v : Value} {n : Nat} {xs : List Value} (h : w.ownsRow B e sz v n xs) (hB : C ≤ B) : w.ownsRow C e sz v n xs :=
  ⟨h.1, h.2.imp id fun ⟨g, cap, cur, a, b, c⟩ => ⟨g, cap, cur, a, Nat.le_trans hB b, c⟩⟩

theorem Own.bytesC {B : Nat} {v : Value} {L : List UInt8} {W0 w : World} (h : Own B 5 1 v L.length (byteCells L) W0 w) : ∃ ad cap, v = .slice ad L.length cap ∧ BytesAt w w.heap.size ad L ∧ L.length ≤ cap := by
  obtain ⟨ad, cap, rfl, hb⟩ := h.bytes
  refine ⟨ad, cap, rfl, hb, ?_⟩
  rcases h.1.2 with ⟨hv, hn⟩ | ⟨g, cap', cur, hv, _, _, hc, _⟩
  · rw [hn]; exact Nat.zero_le _
  · cases hv; exact hc

theorem BytesAt.at {w w' : World} {N M : Nat} {ad : Option Addr} {L : List UInt8} (h : BytesAt w N ad L) (hb : Below N w w') (hM : N ≤ M) : BytesAt w' M ad L := by
  intro i hi
  obtain ⟨p, o, h1, h2, h3⟩ := h.below hb i hi
  exact ⟨p, o, h1, by omega, h3⟩

theorem RowAt.at' {w w' : World} {N M : Nat} {ad : Option Addr} {l : List Val} (h : RowAt w N ad l) (hb : Below N w w') (hM : N ≤ M) : RowAt w' M ad l :=
  (h.below hb).wide hM

end Go.Proofs

namespace Go.Proofs
open Go.RowKit
open Go.Lib (byteCells strCells)

set_option maxRecDepth 20000 in
set_option maxHeartbeats 8000000 in
theorem Tryz.keptLaw (zs : List Int) (ad : Option Addr) (cap : Nat) (w : World) (hz : IntsAt w w.heap.size ad zs) (hl : zs.length ≤ 9223372036854775807) (hL : Lit w.heap.size w)
    (hst : ∀ W, Below w.heap.size w W → Calls Tryz.prog 14 #[] W fun e W' => e = .returned (.bool true) ∧ Below W.heap.size W W')
    (pU : ∀ L, AllFine L → unk (keyL L) = (L, 0)) (pC : ∀ L K, AllFine L → AllFine K → Lib.compareBytes (keyL L) (keyL K) = cmpL L K) (pS : ∀ x : Val, x.fine = true → candV (showT x) = x) (pZ : ∀ x : Val, x.fine = true → (showT x).size ≤ 900) :
    Calls Tryz.prog 5 #[.slice ad zs.length cap] w fun e w' => e = .returned (.bool true) ∧ Below w.heap.size w w' := by
  obtain ⟨i23, hi23, hz23, hs23, hb23⟩ := info_parts Tryz.info23'
  have hb0 : Below w.heap.size w (w.alloc (.cells #[.slice ad zs.length cap, .int .i64 0] 31)) := (Below.refl _ _).alloc (Nat.le_refl _) _
  have hV0 : Live (w.alloc (.cells #[.slice ad zs.length cap, .int .i64 0] 31)) w.heap.size w.heap.size ad zs cap 0 := ⟨heap_alloc_new w _, hz.below hb0, Nat.le_refl _, hl, by omega, hL.on hb0⟩
  go_enter Tryz.func5, Tryz.ntmps5
  go_wp2_with fail
  generalize w.alloc (.cells #[.slice ad zs.length cap, .int .i64 0] 31) = W0 at hb0 hV0 ⊢
  clear hz hL
  refine (Tryz.nextL hV0 (by omega) _ (by omega) (by omega)).mono ?_
  rintro e W1 ⟨n1, hn1, hn14, rfl, hV1, hT1⟩
  have hb1 : Below w.heap.size w W1 := hb0.trans hT1.below
  clear hV0 hb0 hT1
  go_wp2_with fail
  go_loopw [4, 19] (fun o i wr => ∃ (L : List Val) (a : Int), i = .int .i64 L.length ∧ (L.length : Int) ≤ n1 ∧ AllFine L ∧ a ≤ 1 + 8 * L.length ∧ Live wr w.heap.size w.heap.size ad zs cap a ∧ wr.ownsRow (w.heap.size + 1) 23 3 o L.length (valCells L) ∧ Below w.heap.size w wr) (fun _ i _ => (4 - intOf i).toNat)
  case atStart => exact ⟨[], 1, rfl, by simpa using hn1, (fun _ h => nomatch h), by simp, hV1, World.ownsRow_nil _ _ _ _, hb1⟩
  case round =>
    obtain ⟨L, a, rfl, hLn, hF, ha, hV, hO, hb⟩ := hrel
    clear hV1 hb1
    by_cases hlt : (L.length : Int) < n1
    · go_wp2_with fail
      refine (Tryz.kindL hV (by omega)).mono ?_
      rintro e W2 ⟨k, hk1, hk2, rfl, hV2, hT2⟩
      go_wp2_with fail
      refine (Tryz.valueL hV2 (by omega) k ⟨hk1, hk2⟩).mono ?_
      rintro e W3 ⟨x, b, hx, hba, rfl, hV3, hT3⟩
      have hT := hT2.trans hT3
      have hb3 := hb.trans hT.below
      have hO3 := owns_turn hO (by omega) hT
      have hO4 : Own (w.heap.size + 1) 23 3 _ L.length (valCells L) W3 W3 := ⟨hO3, Below.refl _ _, hV3.lt⟩
      clear hV hV2 hT2 hT3 hT hO hO3 hb
      simp only [Val.v, valV]
      go_wp2_with (at_builtin; (refine append_val ?_ (.tmp 21) (.tmp 26) 36 ?_ (w.heap.size + 1) 23 i23 _ Tryz.underlying36 hi23 hz23 rfl hs23 hb23 _ _ _ W3 _ hO4 x (by omega) ?_ ?_ ?_; rfl; rfl; rfl; exact ⟨_, rfl, rfl⟩; intro v3 w3 hO5))
      go_roundw
      case rel =>
        refine ⟨L ++ [x], b, ?_, ?_, fine_snoc hF hx, ?_, hV3.keep hO5.2.1 (by omega), ?_, ?_⟩
        · simp
        · simp; omega
        · simp; omega
        · rw [List.length_append, List.length_singleton, valCells_snoc]; exact hO5.1
        · exact hb3.trans (hO5.2.1.mono (by omega))
      case measure => simp [intOf]; omega
    · go_wp2_with fail
      obtain ⟨ad1, c1, rfl, hA⟩ := rowG_of hO hF
      have hLn4 : L.length ≤ 4 := by omega
      clear hn1 hn14 hLn hlt hO
      refine (Tryz.nextL hV (by omega) _ (by omega) (by omega)).mono ?_
      rintro e W2 ⟨n2, hn2, hn24, rfl, hV2, hT2⟩
      have hb2 := hb.trans hT2.below
      have hA2 := hA.turn (Nat.le_refl _) hT2
      have hN2 := hT2.size
      have hgN := hV.lt
      generalize wr.heap.size = N2 at hA2 hN2 hgN
      clear hV hb hT2 hA
      go_wp2_with fail
      go_loopw [5, 31] (fun o i wr => ∃ (K : List Val) (c : Int), i = .int .i64 K.length ∧ (K.length : Int) ≤ n2 ∧ AllFine K ∧ c ≤ 50 + 8 * K.length ∧ Live wr w.heap.size w.heap.size ad zs cap c ∧ wr.ownsRow N2 23 3 o K.length (valCells K) ∧ Below w.heap.size w wr ∧ RowG wr w.heap.size N2 ad1 L ∧ N2 ≤ wr.heap.size) (fun _ i _ => (4 - intOf i).toNat)
      case atStart => exact ⟨[], a + 1, rfl, by simpa using hn2, (fun _ h => nomatch h), by simp; omega, hV2, World.ownsRow_nil _ _ _ _, hb2, hA2, hN2⟩
      case round =>
        obtain ⟨K, c, rfl, hKn, hG, hc, hV, hO, hb, hA, hN⟩ := hrel
        clear hV2 hb2 hA2 hN2
        by_cases hlt : (K.length : Int) < n2
        · go_wp2_with fail
          refine (Tryz.kindL hV (by omega)).mono ?_
          rintro e W2 ⟨k, hk1, hk2, rfl, hV2, hT2⟩
          go_wp2_with fail
          refine (Tryz.valueL hV2 (by omega) k ⟨hk1, hk2⟩).mono ?_
          rintro e W3 ⟨x, b, hx, hba, rfl, hV3, hT3⟩
          have hT := hT2.trans hT3
          have hb3 := hb.trans hT.below
          have hO3 := owns_turn hO hgN hT
          have hN3 := Nat.le_trans hN hT.size
          have hA3 := hA.turn hN hT
          have hO4 : Own N2 23 3 _ K.length (valCells K) W3 W3 := ⟨hO3, Below.refl _ _, hN3⟩
          clear hV hV2 hT2 hT3 hT hO hO3 hb hA hN hN3
          simp only [Val.v, valV]
          go_wp2_with (at_builtin; (refine append_val ?_ (.tmp 33) (.tmp 38) 36 ?_ N2 23 i23 _ Tryz.underlying36 hi23 hz23 rfl hs23 hb23 _ _ _ W3 _ hO4 x (by omega) ?_ ?_ ?_; rfl; rfl; rfl; exact ⟨_, rfl, rfl⟩; intro v3 w3 hO5))
          go_roundw
          case rel =>
            refine ⟨K ++ [x], b, ?_, ?_, fine_snoc hG hx, ?_, hV3.keep hO5.2.1 hgN, ?_, ?_, hA3.below hO5.2.1, hO5.2.2⟩
            · simp
            · simp; omega
            · simp; omega
            · rw [List.length_append, List.length_singleton, valCells_snoc]; exact hO5.1
            · exact hb3.trans (hO5.2.1.mono (by omega))
          case measure => simp [intOf]; omega
        · go_wp2_with fail
          obtain ⟨ad2, c2, rfl, hB⟩ := rowG_of (owns_wide hO hgN) hG
          have hKn4 : K.length ≤ 4 := by omega
          have hAR := hA.row.wide hN
          have hBR := hB.row
          clear hn2 hn24 hKn hlt hO hA hB hN
          have hC := pC L K hF hG
          have hU := pU L hF
          have hk1 := keyL_length L
          have hk2 := keyL_length K
          clear pU pC
          refine (Tryz.key L ad1 c1 _ hAR (by omega)).mono ?_
          rintro e W3 ⟨v3, rfl, hO3⟩
          go_wp2_with fail
          have hBR3 := hBR.at' hO3.2.1 hO3.2.2
          refine (Tryz.key K ad2 c2 _ hBR3 (by omega)).mono ?_
          rintro e W4 ⟨v4, rfl, hO4⟩
          obtain ⟨ad3, c3, rfl, hB3, hc3⟩ := (hO3.call hO4.2.1).bytesC
          obtain ⟨ad4, c4, rfl, hB4, hc4⟩ := hO4.bytesC
          have hb4 := hO3.2.1.trans (hO4.2.1.mono hO3.2.2)
          have hz4 := Nat.le_trans hO3.2.2 hO4.2.2
          clear hO3 hO4 hBR3
          have hFK := Tryz.fromKey (keyL L) ad3 c3 W4 hB3 (by omega) hc3
          rw [hU] at hFK
          clear hU
          have hCB := fun W (h : Below W4.heap.size W4 W) => Tryz.compareBytes (hB3.below h) (hB4.below h) c3 c4
          rw [hC] at hCB
          clear hC hB3 hB4
          go_wp2_with fail
          refine hFK.mono ?_
          rintro e W5 ⟨v5, hO5, rfl⟩
          obtain ⟨ad5, c5, rfl, hR5⟩ := rowG_of (g := w.heap.size) (owns_wide hO5.1 (by have := hV.lt; omega)) hF
          have hb5 := hb4.trans (hO5.2.1.mono hz4)
          have hz5 := Nat.le_trans hz4 hO5.2.2
          have hC5 := hCB _ hO5.2.1
          clear hO5 hCB hFK hb4 hz4
          go_wp2_with fail
          refine hC5.mono ?_
          rintro e W6 ⟨rfl, rfl⟩
          clear hC5
          go_wp2_with fail
          have hA5 := hAR.at' hb5 hz5
          have hB5 := hBR.at' hb5 hz5
          refine (Tryz.compareLists L K ad1 ad2 c1 c2 _ hA5 hB5 (by omega)).mono ?_
          rintro e W6 ⟨rfl, hb6⟩
          generalize cmpL L K = m
          have hR6 := hR5.row.at' hb6 hb6.size
          have hA6 := hA5.at' hb6 hb6.size
          have hV6 := (hV.call hb5).call hb6
          have hb6' := hb.trans ((hb5.trans (hb6.mono hz5)).mono (Nat.le_of_lt hV.lt))
          clear hV hAR hBR hb hb5 hz5 hR5 hA5 hB5 hb6
          go_wp2_with fail
          refine (Tryz.equalRows L ad5 ad1 c5 c1 _ hR6 hA6 (by omega)).mono ?_
          rintro e W7 ⟨rfl, hb7⟩
          have hA7 := hA6.at' hb7 hb7.size
          have hV7 := hV6.call hb7
          have hb7' := hb6'.trans (hb7.mono (Nat.le_of_lt hV6.lt))
          clear hR6 hA6 hV6 hb6' hb7
          go_wp2_with fail
          replace hA7 : ∃ N, RowAt W7 N ad1 L ∧ N ≤ W7.heap.size := ⟨_, hA7, Nat.le_refl _⟩
          obtain ⟨N7, hA7, hs7⟩ := hA7
          go_loopw [69] (fun i wr => ∃ j : Nat, i = .int .i64 j ∧ j ≤ L.length ∧ Live wr w.heap.size w.heap.size ad zs cap c ∧ Below w.heap.size w wr ∧ RowAt wr N7 ad1 L ∧ N7 ≤ wr.heap.size) (fun i _ => L.length - (intOf i).toNat)
          case atStart => exact ⟨0, rfl, Nat.zero_le _, hV7, hb7', hA7, hs7⟩
          case round =>
            obtain ⟨j, rfl, hj, hV, hb, hA, hN⟩ := hrel
            clear hV7 hb7' hA7
            by_cases hlt : j < L.length
            · obtain ⟨p, o, rfl, hp, d0, d1, d2, ds⟩ := hA j hlt
              have hx := hF _ (List.getElem_mem hlt)
              have hna := same23 L[j]
              have hP := pS _ hx
              have hZ := pZ _ hx
              have hS := fun W h1 h2 => Tryz.showF (N := w.heap.size) L[j] (by have := fine_size hx; omega) W h1 h2
              rw [fine_plain hx] at hS
              have hR := fun W h1 h2 => Tryz.readF (N := w.heap.size) (showT L[j]) L[j] hZ hx hP rfl W h1 h2
              clear hP hZ hx
              generalize showT L[j] = t at hS hR
              generalize L[j] = x at d0 d1 d2 hna hS hR
              go_upto_region 18 with fail
              have hX := BoxAt.new (w := w) x hb
              have hVa := hV.alloc (.cells #[.int .i64 x.k, .int .i64 x.n, .string x.s] 23)
              have hbA : Below wr.heap.size wr (wr.alloc (.cells #[.int .i64 x.k, .int .i64 x.n, .string x.s] 23)) := (Below.refl _ _).alloc (Nat.le_refl _) _
              have hAa := hA.below (hbA.mono hN)
              have hNa := Nat.le_trans hN hbA.size
              generalize wr.alloc (.cells #[.int .i64 x.k, .int .i64 x.n, .string x.s] 23) = W8 at hX hVa hAa hNa ⊢
              generalize wr.heap.size = g8 at hX ⊢
              clear hbA d0 d1 d2 hV hb hA hN
              obtain ⟨⟨x0, x1, x2⟩, _⟩ := hX.cells
              go_wp2_with fail
              refine (hS _ hVa.lit hX.hb.size).mono ?_
              rintro e W9 ⟨rfl, hb9⟩
              replace hVa := hVa.call hb9
              replace hX := hX.next hb9
              replace hAa := hAa.below (hb9.mono hNa)
              replace hNa := Nat.le_trans hNa hb9.size
              clear hb9 x0 x1 x2
              go_wp2_with fail
              refine (hR _ hVa.lit hX.hb.size).mono ?_
              rintro e Wa ⟨rfl, hb9⟩
              replace hVa := hVa.call hb9
              replace hX := hX.next hb9
              replace hAa := hAa.below (hb9.mono hNa)
              replace hNa := Nat.le_trans hNa hb9.size
              clear hb9
              simp only [Val.v, valV]
              go_upto_region 19 with fail
              have hY := BoxAt.new (w := w) x hX.hb
              replace hVa := hVa.alloc (.cells #[.int .i64 x.k, .int .i64 x.n, .string x.s] 23)
              replace hX := hX.alloc (.cells #[.int .i64 x.k, .int .i64 x.n, .string x.s] 23)
              have hbA : Below Wa.heap.size Wa (Wa.alloc (.cells #[.int .i64 x.k, .int .i64 x.n, .string x.s] 23)) := (Below.refl _ _).alloc (Nat.le_refl _) _
              replace hAa := hAa.below (hbA.mono hNa)
              replace hNa := Nat.le_trans hNa hbA.size
              clear hbA
              generalize Wa.alloc (.cells #[.int .i64 x.k, .int .i64 x.n, .string x.s] 23) = Wb at hX hY hVa hAa hNa ⊢
              generalize Wa.heap.size = gb at hY ⊢
              obtain ⟨⟨x0, x1, x2⟩, _⟩ := hX.cells
              obtain ⟨⟨y0, y1, y2⟩, _⟩ := hY.cells
              go_wp2_with fail
              go_roundw
              case rel => exact ⟨j + 1, by go_num, by omega, hVa, hX.hb, hAa, hNa⟩
              case measure => simp [intOf]; omega
            · go_wp2_with fail
              refine (hst _ hb).mono ?_
              rintro e w9 ⟨rfl, hb9⟩
              go_wp2_with fail
              go_ret
              exact ⟨rfl, hb.trans (hb9.mono hb.size)⟩

end Go.Proofs
