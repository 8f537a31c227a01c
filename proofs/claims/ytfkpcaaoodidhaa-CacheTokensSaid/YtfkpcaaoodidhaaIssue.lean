/- Of package cache and of the document's package: a token issued. The list has at most 100000000 numbers. -/
import Derived.Test.YtfkpcaaoodidhaaIter
import Derived.Test.YtfkpcaaoodidhaaSum
namespace Go.Proofs
open Go.RowKit

theorem Try.values (a : Option Addr) (len cap : Nat) (w : World) : Calls Try.prog 21 #[.slice a len cap] w fun e w' => e = .returned (.func (.func 40) #[] #[.pointer (some ⟨w.heap.size, 0, none⟩)]) ∧ w' = w.alloc (.cells #[.slice a len cap] 22) := by
  go_enter Try.func21, Try.ntmps21
  go_wp2
  go_ret
  exact ⟨rfl, rfl⟩

theorem hold_of {w : World} {ad : Option Addr} {l : List Int} {cap : Nat} (h : IntsAt w w.heap.size ad l) : HoldInts w.heap.size w (.slice ad l.length cap) l := by
  cases l with
  | nil => exact .inl ⟨ad, cap, rfl, rfl⟩
  | cons x l =>
    obtain ⟨p, o, rfl, hp, _⟩ := h 0 (by simp)
    refine .inr ⟨p, o, cap, rfl, hp, fun j hj => ?_⟩
    obtain ⟨p', o', h1, _, h3, _⟩ := h j hj
    simp only [Option.some.injEq, Addr.mk.injEq, and_true] at h1
    obtain ⟨rfl, rfl⟩ := h1
    rw [h3, List.getElem?_eq_getElem hj]
    rfl

theorem HoldInts.mono {n m : Nat} {w : World} {sv : Value} {zs : List Int} (h : HoldInts n w sv zs) (hnm : n ≤ m) : HoldInts m w sv zs := by
  rcases h with h | ⟨b, off, cap, h1, h2, h3⟩
  · exact .inl h
  · exact .inr ⟨b, off, cap, h1, by omega, h3⟩

theorem Try.appendSeq (Bs : Nat) (sv : Value) (zs : List Int) (hlen : zs.length ≤ 100000000) (w : World) (hBs : Bs < w.heap.size) (hcs : w.cell? ⟨Bs, 0, none⟩ = some sv) (hI : HoldInts w.heap.size w sv zs) :
    Calls Try.prog 71 #[.slice none 0 0, .func (.func 40) #[] #[.pointer (some ⟨Bs, 0, none⟩)]] w fun e W' => ∃ v, e = .returned v ∧ OwnI w.heap.size v zs w W' :=
  (callsIn_wide.1 (Try.appendSeq_in Fence.wide 3 trivial trivial rfl (Nat.le_refl _) Bs sv zs hlen w hBs hcs hI)).mono fun _ _ ⟨v, he, h1, h2⟩ => ⟨v, he, h1, h2, h2.size⟩

theorem Try.collect (Bs : Nat) (sv : Value) (zs : List Int) (hlen : zs.length ≤ 100000000) (w : World) (hBs : Bs < w.heap.size) (hcs : w.cell? ⟨Bs, 0, none⟩ = some sv) (hI : HoldInts w.heap.size w sv zs) :
    Calls Try.prog 39 #[.func (.func 40) #[] #[.pointer (some ⟨Bs, 0, none⟩)]] w fun e W' => ∃ v, e = .returned v ∧ OwnI w.heap.size v zs w W' := by
  go_enter Try.func39, Try.ntmps39
  go_wp2_with fail
  refine (Try.appendSeq Bs sv zs hlen w hBs hcs hI).mono ?_
  rintro e w' ⟨v, rfl, hO⟩
  go_wp2_with fail
  go_ret
  exact ⟨v, rfl, hO⟩

theorem Try.sorted (Bs : Nat) (sv : Value) (zs : List Int) (hlen : zs.length ≤ 100000000) (w : World) (hBs : Bs < w.heap.size) (hcs : w.cell? ⟨Bs, 0, none⟩ = some sv) (hI : HoldInts w.heap.size w sv zs) :
    Calls Try.prog 20 #[.func (.func 40) #[] #[.pointer (some ⟨Bs, 0, none⟩)]] w fun e W' => ∃ v, e = .returned v ∧ OwnI w.heap.size v (sortL zs) w W' := by
  go_enter Try.func20, Try.ntmps20
  go_wp2_with fail
  refine (Try.collect Bs sv zs hlen w hBs hcs hI).mono ?_
  rintro e w1 ⟨v, rfl, hO⟩
  go_wp2_with fail
  refine (Try.sort w.heap.size zs v w w1 hO hlen).mono ?_
  rintro e w2 ⟨rfl, hO2⟩
  go_wp2_with fail
  go_ret
  exact ⟨v, rfl, hO2⟩

def tokV (v : Value) (u h : Int) : Value := .agg #[v, .int .i64 u, .int .u64 h]

/-- The numbers of a token. -/
def tokL (l : List Int) : List Int := Lib.compact (sortL l)

/-- What a call that issues a token says. -/
def Issued (s : ByteArray) (l : List Int) (u : Int) (w : World) (e : Ending) (w' : World) : Prop :=
  Below w.heap.size w w' ∧ if tokOk s l u = true then
    (if 200 < l.length then e = .returned (.tuple #[tokV (.slice none 0 0) 0 0, .int .i64 2])
      else ∃ v, OwnI w.heap.size v (tokL l) w w' ∧ e = .returned (.tuple #[tokV v u (hashL (keyL (sumL s u (tokL l)))), .int .i64 0]))
    else e = .returned (.tuple #[tokV (.slice none 0 0) 0 0, .int .i64 1])

theorem mem_compact {l : List Int} {x : Int} (h : x ∈ Lib.compact l) : x ∈ l := by
  unfold Lib.compact Lib.compactUpTo at h
  simp only [List.mem_map, List.mem_filter, List.mem_range] at h
  obtain ⟨j, ⟨hj, _⟩, rfl⟩ := h
  simp [hj]

theorem tokL_small {l : List Int} (hs : ∀ x ∈ l, -9223372036854775808 ≤ x ∧ x ≤ 9223372036854775807) : ∀ x ∈ tokL l, -9223372036854775808 ≤ x ∧ x ≤ 9223372036854775807 :=
  fun x hx => hs x (List.mem_mergeSort.1 (mem_compact hx))

theorem tokL_length (l : List Int) : (tokL l).length ≤ l.length := by
  have := compact_length (sortL l)
  rw [sortL_length] at this
  exact this

theorem ints_small {w : World} {N : Nat} {ad : Option Addr} {l : List Int} (h : IntsAt w N ad l) : ∀ x ∈ l, -9223372036854775808 ≤ x ∧ x ≤ 9223372036854775807 := by
  intro x hx
  obtain ⟨i, hi, rfl⟩ := List.getElem_of_mem hx
  obtain ⟨_, _, _, _, _, h1, h2⟩ := h i hi
  exact ⟨h1, h2⟩

/-- Behind w lies the box of a token. -/
def TokIn (w W : World) : Prop := W.heap[w.heap.size]? = some (.cells #[.slice none 0 0, .int .i64 0, .int .u64 0] 32) ∧ Below w.heap.size w W ∧ w.heap.size < W.heap.size

theorem TokIn.start (w : World) : TokIn w (w.alloc (.cells #[.slice none 0 0, .int .i64 0, .int .u64 0] 32)) := ⟨heap_alloc_new _ _, (Below.refl _ _).alloc (Nat.le_refl _) _, by rw [alloc_one]; omega⟩

theorem TokIn.next {w W W' : World} (h : TokIn w W) (hb : Below W.heap.size W W') : TokIn w W' := by
  obtain ⟨h1, h2, h3⟩ := h
  have := hb.size
  exact ⟨(hb.block _ h3).trans h1, h2.trans (hb.mono (Nat.le_of_lt h3)), by omega⟩

theorem TokIn.cells {w W : World} (h : TokIn w W) :
    (W.cell? ⟨w.heap.size, 0, none⟩ = some (.slice none 0 0) ∧ W.cell? ⟨w.heap.size, 1, none⟩ = some (.int .i64 0) ∧ W.cell? ⟨w.heap.size, 2, none⟩ = some (.int .u64 0)) ∧
    (W.frozen? ⟨w.heap.size, 0, none⟩ = false ∧ W.frozen? ⟨w.heap.size, 1, none⟩ = false ∧ W.frozen? ⟨w.heap.size, 2, none⟩ = false) := by
  obtain ⟨h1, h2, h3⟩ := h
  refine ⟨⟨?_, ?_, ?_⟩, ?_, ?_, ?_⟩ <;> simp [World.cell?, World.frozen?, h1]

/-- Three stores into the box. -/
theorem TokIn.put {w W : World} (h : TokIn w W) (x y z : Value) : Below w.heap.size w (((W.setCell ⟨w.heap.size, 0, none⟩ x).setCell ⟨w.heap.size, 1, none⟩ y).setCell ⟨w.heap.size, 2, none⟩ z) := by
  refine Below.setCell (Below.setCell (Below.setCell h.2.1 ?_ _) ?_ _) ?_ _ <;> exact Nat.le_refl _

theorem OwnI.put {W : World} {v : Value} {l : List Int} {B : Nat} {W0 : World} (h : OwnI B v l W0 W) {g : Nat} {cs : Array Value} (hg : W.heap[g]? = some (.cells cs 32)) (hB : B ≤ g) (x y z : Value) :
    OwnI B v l W0 (((W.setCell ⟨g, 0, none⟩ x).setCell ⟨g, 1, none⟩ y).setCell ⟨g, 2, none⟩ z) :=
  ((Own.set h hg (by decide) hB 0 x).set (block_set hg) (by decide) hB 1 y).set (block_set (block_set hg)) (by decide) hB 2 z

/-- What is owned behind a world is owned behind an earlier one. -/
theorem OwnI.base {w w1 W : World} {v : Value} {l : List Int} (h : OwnI w1.heap.size v l w1 W) (hb : Below w.heap.size w w1) : OwnI w.heap.size v l w W := by
  refine ⟨⟨h.1.1, ?_⟩, hb.trans (h.2.1.mono hb.size), Nat.le_trans hb.size h.2.2⟩
  rcases h.1.2 with hn | ⟨g, cap, cur, h1, h2, h3⟩
  · exact .inl hn
  · exact .inr ⟨g, cap, cur, h1, Nat.le_trans hb.size h2, h3⟩

theorem OwnI.slice {B : Nat} {v : Value} {l : List Int} {W0 w : World} (h : OwnI B v l W0 w) : ∃ ad cap, v = .slice ad l.length cap ∧ (ad = none → l = [] ∧ cap = 0) := by
  rcases h.1.2 with ⟨hv, hn⟩ | ⟨g, cap, cur, hv, _⟩
  · exact ⟨none, 0, by rw [hv, hn], fun _ => ⟨List.eq_nil_of_length_eq_zero hn, rfl⟩⟩
  · exact ⟨_, cap, hv, fun e => by cases e⟩

set_option maxRecDepth 20000 in
set_option maxHeartbeats 1000000 in
theorem Try.issue (s : ByteArray) (hs : s.size ≤ 9223372036854775807) (l : List Int) (ad : Option Addr) (ca : Nat) (u : Int) (w : World) (h : IntsAt w w.heap.size ad l) (la : l.length ≤ 100000000) (hca : ad = none → l = [] ∧ ca = 0) :
    Calls Try.prog 7 #[.string s, .slice ad l.length ca, .int .i64 u] w (Issued s l u w) := by
  have hT := TokIn.start w
  have hsm := tokL_small (ints_small h)
  have htl := tokL_length l
  go_enter Try.func7, Try.ntmps7
  go_wp2_with fail
  refine (Try.rightToken s hs l ad ca u _ (h.later hT.2.1) (by omega)).mono ?_
  rintro e w1 ⟨rfl, hb1⟩
  have hT1 := hT.next hb1
  clear hT hb1
  obtain ⟨⟨z0, z1, z2⟩, f0, f1, f2⟩ := hT1.cells
  by_cases hok : tokOk s l u = true
  · by_cases h200 : 200 < l.length
    · go_wp2_with fail
      refine bodyPost_ret (v := .tuple #[tokV (.slice none 0 0) 0 0, .int .i64 2]) (by simp [results, Try.results7, go_sem, tokV, z0, z1, z2]) rfl ⟨hT1.put _ _ _, ?_⟩
      rw [if_pos hok, if_pos h200]
    · go_wp2_with fail
      refine (Try.clone l ad ca w1 (h.later hT1.2.1) la hca).mono ?_
      rintro e w2 ⟨v2, rfl, hO2⟩
      have hT2 := hT1.next hO2.2.1
      go_wp2_with fail
      refine (Try.sort _ l v2 w1 w2 hO2 la).mono ?_
      rintro e w3 ⟨rfl, hO3⟩
      have hT3 := hT1.next hO3.2.1
      go_wp2_with fail
      refine (Try.compact _ (sortL l) v2 w1 w3 hO3 (by rw [sortL_length]; exact la)).mono ?_
      rintro e w4 ⟨v4, rfl, hO4, _⟩
      have hT4 := hT1.next hO4.2.1
      have hO4 : OwnI w1.heap.size v4 (tokL l) w1 w4 := hO4
      obtain ⟨bd, cb, rfl, hI4, _⟩ := hO4.ints hsm
      go_wp2_with fail
      refine (Try.tokenSum s hs (tokL l) bd cb u w4 hI4 (by omega)).mono ?_
      rintro e w5 ⟨rfl, hb5⟩
      have hT5 := hT4.next hb5
      have hO5 : OwnI w1.heap.size (.slice bd (tokL l).length cb) (tokL l) w1 w5 := Own.call hO4 hb5
      have hO6 := hO5.base hT1.2.1
      obtain ⟨⟨z0, z1, z2⟩, f0, f1, f2⟩ := hT5.cells
      go_wp2_with fail
      refine bodyPost_ret (v := .tuple #[tokV (.slice bd (tokL l).length cb) u (hashL (keyL (sumL s u (tokL l)))), .int .i64 0]) (by simp [results, Try.results7, go_sem, tokV, z0, z1, z2]) rfl ⟨hT5.put _ _ _, ?_⟩
      rw [if_pos hok, if_neg h200]
      exact ⟨_, hO6.put hT5.1 (Nat.le_refl _) _ _ _, rfl⟩
  · have hok' : tokOk s l u = false := by simpa using hok
    go_wp2_with fail
    refine bodyPost_ret (v := .tuple #[tokV (.slice none 0 0) 0 0, .int .i64 1]) (by simp [results, Try.results7, go_sem, tokV, z0, z1, z2]) rfl ⟨hT1.put _ _ _, ?_⟩
    rw [if_neg hok]

set_option maxRecDepth 20000 in
set_option maxHeartbeats 1000000 in
theorem Try.issueOf (s : ByteArray) (hs : s.size ≤ 9223372036854775807) (l : List Int) (ad : Option Addr) (ca : Nat) (u : Int) (w : World) (h : IntsAt w w.heap.size ad l) (la : l.length ≤ 100000000) (hca : ad = none → l = [] ∧ ca = 0) :
    Calls Try.prog 8 #[.string s, .slice ad l.length ca, .int .i64 u] w (Issued s l u w) := by
  have hT := TokIn.start w
  have hsm := tokL_small (ints_small h)
  have htl := tokL_length l
  go_enter Try.func8, Try.ntmps8
  go_wp2_with fail
  refine (Try.tokenFault s hs l ad ca u _ (h.later hT.2.1) (by omega)).mono ?_
  rintro e w1 ⟨rfl, hb1⟩
  have hT1 := hT.next hb1
  clear hT hb1
  obtain ⟨⟨z0, z1, z2⟩, f0, f1, f2⟩ := hT1.cells
  by_cases hok : tokOk s l u = true
  · by_cases h200 : 200 < l.length
    · go_wp2_with fail
      refine bodyPost_ret (v := .tuple #[tokV (.slice none 0 0) 0 0, .int .i64 2]) (by simp [results, Try.results8, go_sem, tokV, z0, z1, z2]) rfl ⟨hT1.put _ _ _, ?_⟩
      rw [if_pos hok, if_pos h200]
    · go_wp2_with fail
      refine (Try.values ad l.length ca w1).mono ?_
      rintro e w2 ⟨rfl, rfl⟩
      have hb2 : Below w1.heap.size w1 (w1.alloc (.cells #[.slice ad l.length ca] 22)) := (Below.refl _ _).alloc (Nat.le_refl _) _
      have hc2 : (w1.alloc (.cells #[.slice ad l.length ca] 22)).cell? ⟨w1.heap.size, 0, none⟩ = some (.slice ad l.length ca) := by unfold World.cell?; rw [heap_alloc_new]; rfl
      have hl2 : w1.heap.size < (w1.alloc (.cells #[.slice ad l.length ca] 22)).heap.size := by rw [alloc_one]; omega
      have hH := ((hold_of (cap := ca) (h.later hT1.2.1)).below hb2).mono hb2.size
      generalize w1.alloc (.cells #[.slice ad l.length ca] 22) = w2 at hb2 hc2 hl2 hH ⊢
      go_wp2_with fail
      refine (Try.sorted w1.heap.size _ l la w2 hl2 hc2 hH).mono ?_
      rintro e w3 ⟨v2, rfl, hO3⟩
      have hO3 := hO3.base hb2
      have hT3 := hT1.next hO3.2.1
      clear hb2 hc2 hl2 hH
      go_wp2_with fail
      refine (Try.compact _ (sortL l) v2 w1 w3 hO3 (by rw [sortL_length]; exact la)).mono ?_
      rintro e w4 ⟨v4, rfl, hO4, _⟩
      have hT4 := hT1.next hO4.2.1
      have hO4 : OwnI w1.heap.size v4 (tokL l) w1 w4 := hO4
      obtain ⟨bd, cb, rfl, hI4, _⟩ := hO4.ints hsm
      go_wp2_with fail
      refine (Try.refSum s hs (tokL l) bd cb u w4 hI4 (by omega)).mono ?_
      rintro e w5 ⟨rfl, hb5⟩
      have hT5 := hT4.next hb5
      have hO5 : OwnI w1.heap.size (.slice bd (tokL l).length cb) (tokL l) w1 w5 := Own.call hO4 hb5
      have hO6 := hO5.base hT1.2.1
      obtain ⟨⟨z0, z1, z2⟩, f0, f1, f2⟩ := hT5.cells
      go_wp2_with fail
      refine bodyPost_ret (v := .tuple #[tokV (.slice bd (tokL l).length cb) u (hashL (keyL (sumL s u (tokL l)))), .int .i64 0]) (by simp [results, Try.results8, go_sem, tokV, z0, z1, z2]) rfl ⟨hT5.put _ _ _, ?_⟩
      rw [if_pos hok, if_neg h200]
      exact ⟨_, hO6.put hT5.1 (Nat.le_refl _) _ _ _, rfl⟩
  · have hok' : tokOk s l u = false := by simpa using hok
    go_wp2_with fail
    refine bodyPost_ret (v := .tuple #[tokV (.slice none 0 0) 0 0, .int .i64 1]) (by simp [results, Try.results8, go_sem, tokV, z0, z1, z2]) rfl ⟨hT1.put _ _ _, ?_⟩
    rw [if_neg hok]
end Go.Proofs
