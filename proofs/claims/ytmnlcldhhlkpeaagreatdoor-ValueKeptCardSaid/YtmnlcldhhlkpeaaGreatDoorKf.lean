/- Of package value: FromKey. No condition. -/
import Derived.Test.YtmnlcldhhlkpeaaGreatDoorKy
import Derived.Test.YtmnlcldhhlkpeaaGreatDoorBackP
import Derived.BigRegion
import Derived.Test.YtmnlcldhhlkpeaaGreatDoorLit
import Derived.StillTailTactics
import Derived.IntWalk
import Derived.RegionTactic
import Derived.ChangeAlike
import Derived.Deep.RegionLaw
namespace Go.Proofs
open Go.RowKit
open Go.Lib (byteCells strCells)

/-- At the address lie the bytes of a list, all in blocks below N. -/
def BytesAt (w : World) (N : Nat) (ad : Option Addr) (L : List UInt8) : Prop :=
  ∀ i (h : i < L.length), ∃ p o, ad = some ⟨p, o, none⟩ ∧ p < N ∧ w.cell? ⟨p, o + i, none⟩ = some (.int .u8 L[i].toNat)

theorem BytesAt.below {w w' : World} {N : Nat} {ad : Option Addr} {L : List UInt8} (h : BytesAt w N ad L) (hb : Below N w w') : BytesAt w' N ad L := by
  intro i hi
  obtain ⟨p, o, h1, h2, h3⟩ := h i hi
  exact ⟨p, o, h1, h2, (hb.cell h2).trans h3⟩

theorem BytesAt.later {w w' : World} {ad : Option Addr} {L : List UInt8} (h : BytesAt w w.heap.size ad L) (hb : Below w.heap.size w w') : BytesAt w' w'.heap.size ad L := by
  intro i hi
  obtain ⟨p, o, h1, h2, h3⟩ := h.below hb i hi
  exact ⟨p, o, h1, Nat.lt_of_lt_of_le h2 hb.size, h3⟩

theorem Own.bytes {B : Nat} {v : Value} {L : List UInt8} {W0 w : World} (h : Own B 5 1 v L.length (byteCells L) W0 w) : ∃ ad cap, v = .slice ad L.length cap ∧ BytesAt w w.heap.size ad L := by
  rcases h.1.2 with ⟨hv, hn⟩ | ⟨g, cap, cur, hv, hb, hg, _⟩
  · refine ⟨none, 0, by rw [hv, hn], fun i hi => ?_⟩
    omega
  · refine ⟨some ⟨g, 0, none⟩, cap, hv, fun i hi => ⟨g, 0, rfl, (Array.getElem?_eq_some_iff.1 hg).1, ?_⟩⟩
    have := h.1.cells (g := g) (by rw [hv]; rfl) i (.int .u8 L[i].toNat) (by simp [byteCells, hi])
    rwa [show (⟨g, 0, none⟩ : Addr).add i = ⟨g, 0 + i, none⟩ by unfold Addr.add; split <;> simp_all] at this




end Go.Proofs

namespace Go.Proofs
open Go.RowKit
open Go.Lib (byteCells strCells)

inductive Dec where
  | err (e : Int)
  | ok (v : Val) (n : Nat)

def numStep (n : Int) (c : UInt8) : Int := bits .or .u64 (IntKind.u64.wrap (n * 256)) (IntKind.u64.wrap (c.toNat : Int))
def numL (L : List UInt8) : Int := L.foldl numStep 0
def numK (L : List UInt8) : Int := wrap64 (IntKind.u64.wrap (numL L - 4611686018427387904))

theorem numL_take {L : List UInt8} {k : Nat} (h : k < L.length) : numL (L.take (k + 1)) = numStep (numL (L.take k)) L[k] := by
  unfold numL
  rw [List.take_succ_eq_append_getElem h, List.foldl_append]
  rfl

def idx0 (r : List UInt8) : Int := Lib.indexByte r 0

def textK (L : List UInt8) : Val := ⟨3, 0, ⟨L.toArray⟩⟩

/-- What stands at the beginning of bytes, the first of which is c. -/
def dec (c : UInt8) (r : List UInt8) : Dec :=
  if 4 < c.toNat then .err 4
  else if c.toNat = 0 then .ok Val.zero 1
  else if c.toNat = 3 then
    if idx0 r < 0 then .err 15
    else if (textK (r.take (idx0 r).toNat)).fine then .ok (textK (r.take (idx0 r).toNat)) ((idx0 r).toNat + 2) else .err 1
  else if r.length < 8 then .err 15
  else if (Val.fine ⟨c.toNat, numK (r.take 8), ⟨#[]⟩⟩) then .ok ⟨c.toNat, numK (r.take 8), ⟨#[]⟩⟩ 9 else .err 1

theorem indexByte_lt : ∀ (r : List UInt8) (c : UInt8), Lib.indexByte r c < r.length
  | [], _ => by simp [Lib.indexByte]
  | b :: l, c => by
    have := indexByte_lt l c
    unfold Lib.indexByte
    simp only [List.length_cons]
    split
    · omega
    · split <;> omega

theorem idx0_bounds (r : List UInt8) : -1 ≤ idx0 r ∧ idx0 r < r.length := ⟨Lib.indexByte_ge r 0, indexByte_lt r 0⟩

/-- A part of bytes lies behind its beginning. -/
theorem BytesAt.part {w : World} {N p o m n : Nat} {L : List UInt8} {sp : Option Addr} (h : BytesAt w N (some ⟨p, o, none⟩) L) (hm : n ≤ L.length - m) (hs : 0 < n → sp = some ⟨p, o + m, none⟩) :
    BytesAt w N sp ((L.drop m).take n) := by
  intro i hi
  have hlen : i < n ∧ m + i < L.length := by simp only [List.length_take, List.length_drop] at hi; omega
  obtain ⟨p', o', h1, h2, h3⟩ := h (m + i) hlen.2
  simp only [Option.some.injEq, Addr.mk.injEq, and_true] at h1
  obtain ⟨rfl, rfl⟩ := h1
  refine ⟨p, o + m, hs (by omega), h2, ?_⟩
  rw [show o + m + i = o + (m + i) by omega, h3]
  simp

theorem BytesAt.behind {w : World} {N p o m : Nat} {L : List UInt8} {sp : Option Addr} (h : BytesAt w N (some ⟨p, o, none⟩) L) (hs : m < L.length → sp = some ⟨p, o + m, none⟩) : BytesAt w N sp (L.drop m) := by
  have := h.part (m := m) (n := L.length - m) (sp := sp) (Nat.le_refl _) (fun hh => hs (by omega))
  rwa [List.take_of_length_le (by simp)] at this

theorem convert_none (w : World) (p : Option Addr) (c : Nat) : (convert 39 9 (.slice p 0 c)).run Tryz.prog w = .ok (.string ByteArray.empty) w := by
  rw [run_convert_bytes_string w 39 9 5 _ 0 c Tryz.underlying39 Tryz.underlying5 Tryz.underlying9]
  cases p with
  | none => simp [Conv.bytesToString]
  | some a => simp [Conv.bytesToString, loadCells, loadCellsFrom]

theorem BytesAt.string {w : World} {N : Nat} {ad : Option Addr} {L : List UInt8} (h : BytesAt w N ad L) (cap : Nat) : (convert 39 9 (.slice ad L.length cap)).run Tryz.prog w = .ok (.string ⟨L.toArray⟩) w := by
  cases L with
  | nil => exact convert_none w ad cap
  | cons c r =>
    obtain ⟨p, o, rfl, _, _⟩ := h 0 (by simp)
    have e : strOfNums ((c :: r).map fun c => (c.toNat : Int)) = ⟨(c :: r).toArray⟩ := by
      unfold strOfNums
      congr 1
      simp only [List.map_map]
      congr 1
      have : ((fun n : Int => UInt8.ofNat n.toNat) ∘ fun c : UInt8 => (c.toNat : Int)) = id := by
        funext x
        simp
      rw [this, List.map_id]
    rw [← e]
    refine run_convert_bytes_arg w 39 5 Tryz.underlying39 Tryz.underlying5 p o _ cap _ (by simp) (fun i hi => ?_) 9 Tryz.underlying9
    obtain ⟨p', o', h1, h2, h3⟩ := h i hi
    simp only [Option.some.injEq, Addr.mk.injEq, and_true] at h1
    obtain ⟨rfl, rfl⟩ := h1
    rw [h3]
    congr 1
    rw [List.getD_eq_getElem?_getD, List.getElem?_map, List.getElem?_eq_getElem hi]
    rfl

theorem idx0_step (r : List UInt8) (k : Nat) (h : k < r.length) (hk : ∀ j, j < k → (hj : j < r.length) → r[j] ≠ 0) : (r[k] = 0 → idx0 r = k) := by
  intro h0
  unfold idx0
  induction r generalizing k with
  | nil => simp at h
  | cons b l ih =>
    unfold Lib.indexByte
    match k, h, hk, h0 with
    | 0, h, hk, h0 => simp only [List.getElem_cons_zero] at h0; simp [h0]
    | k + 1, h, hk, h0 =>
      have hb : b ≠ 0 := hk 0 (by omega) (by simp)
      have := ih k (by simpa using h) (fun j hj hjl => hk (j + 1) (by omega) (by simpa using hjl)) (by simpa using h0)
      rw [this]
      simp [hb]
      try omega

theorem idx_more {r : List UInt8} {k : Nat} {hlt : k < r.length} (hk : ∀ j, j < k → (hj : j < r.length) → r[j] ≠ 0) (hn : ¬ r[k] = 0) : ∀ j, j < k + 1 → (hj : j < r.length) → r[j] ≠ 0 := by
  intro j hj hjl
  by_cases e : j < k
  · exact hk j e hjl
  · have : j = k := by omega
    subst this
    exact hn

theorem idx0_none (r : List UInt8) (hk : ∀ j, (hj : j < r.length) → r[j] ≠ 0) : idx0 r = -1 := by
  unfold idx0
  induction r with
  | nil => rfl
  | cons b l ih =>
    unfold Lib.indexByte
    have hb : b ≠ 0 := hk 0 (by simp)
    rw [ih (fun j hj => hk (j + 1) (by simpa using hj))]
    simp [hb]

end Go.Proofs

namespace Go.Proofs
open Go.RowKit
open Go.Lib (byteCells strCells)

theorem Tryz.indexStr (r : List UInt8) (w : World) : Calls Tryz.prog 83 #[.string ⟨r.toArray⟩, .int .u8 0] w fun e w' => e = .returned (.int .i64 (idx0 r)) ∧ w' = w :=
  Tryz.strings_IndexByte ⟨r.toArray⟩ 0 w

/-- What a call that reads a value off the beginning of bytes says. -/
def KvPost (c : UInt8) (r : List UInt8) (N : Nat) (w : World) (e : Ending) (w' : World) : Prop :=
  Below w.heap.size w w' ∧ match dec c r with
  | .err k => ∃ y : Val, e = .returned (.tuple #[y.v, .slice none 0 0, .int .i64 k])
  | .ok y n => ∃ ad ca, e = .returned (.tuple #[y.v, .slice ad (r.length + 1 - n) ca, .int .i64 0]) ∧ BytesAt w' N ad ((c :: r).drop n) ∧ r.length + 1 - n ≤ ca

theorem two_set {w W : World} {a b : Val} (h : TwoIn w W a b) (x : Val) :
    Below w.heap.size w (((W.setCell ⟨w.heap.size, 0, none⟩ (.int .i64 x.k)).setCell ⟨w.heap.size, 1, none⟩ (.int .i64 x.n)).setCell ⟨w.heap.size, 2, none⟩ (.string x.s)) := by
  refine Below.setCell (Below.setCell (Below.setCell h.2.2.1 ?_ _) ?_ _) ?_ _ <;> exact Nat.le_refl _

theorem TwoIn.sndS {w W : World} {a b : Val} (h : TwoIn w W a b) (s : ByteArray) : TwoIn w (W.setCell ⟨w.heap.size + 1, 2, none⟩ (.string s)).drew a ⟨b.k, b.n, s⟩ := by
  obtain ⟨h1, h2, h3, h4⟩ := h
  have g1 : (W.setCell ⟨w.heap.size + 1, 2, none⟩ (.string s)).heap[w.heap.size]? = _ := (block_set_ne (by omega)).trans h1
  have g2 := block_set (i := 2) (v := .string s) h2
  exact ⟨g1, g2, (h3.setCell (p := ⟨w.heap.size + 1, 2, none⟩) (Nat.le_succ _) _).drew, by show _ < (W.setCell _ _).heap.size; rw [size_set]; exact h4⟩

theorem TwoIn.sndN {w W : World} {a b : Val} (h : TwoIn w W a b) (n : Int) : TwoIn w (W.setCell ⟨w.heap.size + 1, 1, none⟩ (.int .i64 n)).drew a ⟨b.k, n, b.s⟩ := by
  obtain ⟨h1, h2, h3, h4⟩ := h
  have g1 : (W.setCell ⟨w.heap.size + 1, 1, none⟩ (.int .i64 n)).heap[w.heap.size]? = _ := (block_set_ne (by omega)).trans h1
  have g2 := block_set (i := 1) (v := .int .i64 n) h2
  exact ⟨g1, g2, (h3.setCell (p := ⟨w.heap.size + 1, 1, none⟩) (Nat.le_succ _) _).drew, by show _ < (W.setCell _ _).heap.size; rw [size_set]; exact h4⟩

set_option maxRecDepth 20000 in
set_option maxHeartbeats 2000000 in
theorem Tryz.keyValue (c : UInt8) (r : List UInt8) (ad : Option Addr) (ca : Nat) (w : World) (N : Nat) (hN : N ≤ w.heap.size) (h : BytesAt w N ad (c :: r)) (la : r.length < 1000000000) (hca : r.length < ca) :
    Calls Tryz.prog 51 #[.slice ad (r.length + 1) ca] w (KvPost c r N w) := by
  obtain ⟨p, o, rfl, hpN, c0⟩ := h 0 (by simp)
  have hp : p < w.heap.size := Nat.lt_of_lt_of_le hpN hN
  simp only [List.getElem_cons_zero, Nat.add_zero] at c0
  have hB1 : BytesAt w N (if ca = 1 then some ⟨p, o, none⟩ else some ⟨p, o + 1, none⟩) r := by
    have := h.behind (m := 1) (sp := if ca = 1 then some ⟨p, o, none⟩ else some ⟨p, o + 1, none⟩) (fun hh => by
      simp only [List.length_cons] at hh
      rw [if_neg (by omega)])
    exact this
  have hT : TwoIn w ((w.alloc (.cells #[.int .i64 0, .int .i64 0, .string ⟨#[]⟩] 23)).alloc (.cells #[.int .i64 c.toNat, .int .i64 0, .string ⟨#[]⟩] 23)) Val.zero ⟨c.toNat, 0, ⟨#[]⟩⟩ := TwoIn.start w Val.zero ⟨c.toNat, 0, ⟨#[]⟩⟩
  have hc1 : (0 : Int) ≤ c.toNat := by omega
  have hc2 : (c.toNat : Int) ≤ 255 := by have := c.toNat_lt; omega
  have hpost : ∀ e w', KvPost c r N w e w' = KvPost c r N w e w' := fun _ _ => rfl
  have hdec : dec c r = dec c r := rfl
  clear hpost hdec
  go_enter Tryz.func51, Tryz.ntmps51
  go_upto_region 12 with fail
  generalize (w.alloc (.cells #[.int .i64 0, .int .i64 0, .string ⟨#[]⟩] 23)).alloc (.cells #[.int .i64 c.toNat, .int .i64 0, .string ⟨#[]⟩] 23) = W at hT ⊢
  generalize (if ca = 1 then some (⟨p, o, none⟩ : Addr) else some ⟨p, o + 1, none⟩) = ad1 at hB1 ⊢
  have hca1 : r.length ≤ ca - 1 := by omega
  generalize ca - 1 = ca1 at hca1 ⊢
  obtain ⟨⟨z0, z1, z2⟩, ⟨d0, d1, d2⟩, ⟨f0, f1, f2⟩, g0, g1, g2⟩ := hT.cells
  by_cases h4 : 4 < c.toNat
  · have h4' : (4 : Int) < c.toNat := by omega
    have HD : dec c r = .err 4 := by unfold dec; rw [if_pos h4]
    have HD := Lib.hid HD
    go_wp2_with fail
    refine bodyPost_ret (v := .tuple #[valV c.toNat 0 ⟨#[]⟩, .slice none 0 0, .int .i64 4]) (by simp [results, Tryz.results51, go_sem, valV, z0, z1, z2]) rfl ⟨two_set hT ⟨c.toNat, 0, ⟨#[]⟩⟩, ?_⟩
    rw [HD.out]
    exact ⟨⟨c.toNat, 0, ⟨#[]⟩⟩, rfl⟩
  · by_cases h0 : c.toNat = 0
    · have HD : dec c r = .ok Val.zero 1 := by unfold dec; rw [if_neg h4, if_pos h0]
      have HD := Lib.hid HD
      simp only [h0] at d0
      go_wp2_with fail
      refine bodyPost_ret (v := .tuple #[Val.zero.v, .slice ad1 r.length ca1, .int .i64 0]) (by simp [results, Tryz.results51, go_sem, Val.zero, Val.v, valV, z0, z1, z2]) rfl ⟨two_set hT Val.zero, ?_⟩
      rw [HD.out]
      exact ⟨ad1, ca1, rfl, hB1.below ((two_set hT Val.zero).mono hN), by omega⟩
    · by_cases h3 : c.toNat = 3
      · simp only [h3] at d0
        have hconv := (hB1.below (hT.2.2.1.mono hN)).string ca1
        have hib := idx0_bounds r
        by_cases hi : idx0 r < 0
        · have HD : dec c r = .err 15 := by unfold dec; rw [if_neg h4, if_neg h0, if_pos h3, if_pos hi]
          have HD := Lib.hid HD
          go_wp2_with (first | (go_at_call 83; refine (Tryz.indexStr r _).mono ?_; rintro e w' ⟨rfl, rfl⟩))
          refine bodyPost_ret (v := .tuple #[valV 3 0 ⟨#[]⟩, .slice none 0 0, .int .i64 15]) (by simp [results, Tryz.results51, go_sem, valV, z0, z1, z2]) rfl ⟨two_set hT ⟨3, 0, ⟨#[]⟩⟩, ?_⟩
          rw [HD.out]
          exact ⟨⟨3, 0, ⟨#[]⟩⟩, rfl⟩
        · obtain ⟨n, hn⟩ := Int.eq_ofNat_of_zero_le (show 0 ≤ idx0 r by omega)
          have hnl : n < r.length := by omega
          obtain ⟨p1, o1, rfl, hp1, c1⟩ := hB1 n hnl
          have hne : ¬ ca1 = 0 := by omega
          have hconv2 := ((hB1.below (hT.2.2.1.mono hN)).part (m := 0) (n := n) (sp := some ⟨p1, o1, none⟩) (by omega) (fun _ => rfl)).string ca1
          have hB2 : BytesAt w N (if ca1 = n + 1 then some ⟨p1, o1, none⟩ else some ⟨p1, o1 + (n + 1), none⟩) (r.drop (n + 1)) := hB1.behind (fun hh => by rw [if_neg (by omega)])
          simp only [List.drop_zero, List.length_take, Nat.min_eq_left (Nat.le_of_lt hnl)] at hconv2
          have HN := Lib.hid hn
          have hidx : ∀ W' : World, Calls Tryz.prog 83 #[.string ⟨r.toArray⟩, .int .u8 0] W' fun e w' => e = .returned (.int .i64 (n : Int)) ∧ W' = w' := fun W' => (Tryz.indexStr r W').mono fun e w' ⟨he, hw⟩ => ⟨by rw [he, hn], hw.symm⟩
          have hidx := Lib.hid hidx
          clear hn hi hib
          go_upto_region 20 with (first | (go_at_call 83; refine (hidx.out _).mono ?_; rintro e w' ⟨rfl, rfl⟩))
          have hconv3 := ((hB1.below (hT.drew.2.2.1.mono hN)).part (m := 0) (n := n) (sp := some ⟨p1, o1, none⟩) (by omega) (fun _ => rfl)).string ca1
          simp only [List.drop_zero, List.length_take, Nat.min_eq_left (Nat.le_of_lt hnl)] at hconv3
          have hnca : n ≤ ca1 := by omega
          have hnl1 : n + 1 ≤ r.length := hnl
          have hs1 : IntKind.i64.wrap ((n : Int) + 1) = n + 1 := IntWalk.i64_in _ (by omega)
          have hs2 : ((n : Int) + 1).toNat = n + 1 := by omega
          have hs3 : 0 ≤ (n : Int) + 1 := by omega
          have hs4 : (n : Int) + 1 ≤ r.length := by omega
          go_region
          go_upto_region 21 with fail
          have hT2 := hT.sndS ⟨(r.take n).toArray⟩
          clear z0 z1 z2 d0 d1 d2 f0 f1 f2 g0 g1 g2 hconv hconv2 hconv3 hs1 hs2 hs3 hs4
          generalize (W.setCell ⟨w.heap.size + 1, 2, none⟩ (.string ⟨(r.take n).toArray⟩)).drew = W2 at hT2 ⊢
          generalize (if ca1 = n + 1 then some (⟨p1, o1, none⟩ : Addr) else some ⟨p1, o1 + (n + 1), none⟩) = ad2 at hB2 ⊢
          have hsz : (⟨(r.take n).toArray⟩ : ByteArray).size ≤ 9223372036854775807 := by
            show (r.take n).toArray.size ≤ _
            simp only [List.size_toArray, List.length_take]
            omega
          obtain ⟨⟨z0, z1, z2⟩, ⟨d0, d1, d2⟩, ⟨f0, f1, f2⟩, g0, g1, g2⟩ := hT2.cells
          by_cases hf : Val.fine ⟨3, 0, ⟨(r.take n).toArray⟩⟩ = true
          · have HD : dec c r = .ok (textK (r.take n)) (n + 2) := by
              unfold dec
              rw [if_neg h4, if_neg h0, if_pos h3, HN.out, if_neg (by omega)]
              show (if Val.fine ⟨3, 0, ⟨(r.take n).toArray⟩⟩ = true then _ else _) = _
              rw [if_pos hf]
              rfl
            have HD := Lib.hid HD
            go_wp2_with (first | (go_at_call 56; refine (Tryz.right _ _ _ hsz _).mono ?_; rintro e w3 ⟨rfl, hb3⟩; have hT3 := TwoIn.next (a := Val.zero) (b := ⟨c.toNat, 0, ⟨(r.take n).toArray⟩⟩) hT2 hb3; obtain ⟨⟨z0, z1, z2⟩, ⟨d0, d1, d2⟩, ⟨f0, f1, f2⟩, g0, g1, g2⟩ := hT3.cells))
            refine bodyPost_ret (v := .tuple #[(textK (r.take n)).v, .slice ad2 (r.length - (n + 1)) (ca1 - (n + 1)), .int .i64 0]) (by simp [results, Tryz.results51, go_sem, textK, Val.v, valV, z0, z1, z2]) rfl ⟨two_set hT3 (textK (r.take n)), ?_⟩
            rw [HD.out]
            refine ⟨ad2, ca1 - (n + 1), by rw [show r.length + 1 - (n + 2) = r.length - (n + 1) by omega], ?_, by omega⟩
            exact hB2.below ((two_set hT3 (textK (r.take n))).mono hN)
          · have HD : dec c r = .err 1 := by
              unfold dec
              rw [if_neg h4, if_neg h0, if_pos h3, HN.out, if_neg (by omega)]
              show (if Val.fine ⟨3, 0, ⟨(r.take n).toArray⟩⟩ = true then _ else _) = _
              rw [if_neg hf]
            have HD := Lib.hid HD
            have hff : Val.fine ⟨3, 0, ⟨(r.take n).toArray⟩⟩ = false := by simpa using hf
            clear hf
            go_wp2_with (first | (go_at_call 56; refine (Tryz.right _ _ _ hsz _).mono ?_; rintro e w3 ⟨rfl, hb3⟩; have hT3 := TwoIn.next (a := Val.zero) (b := ⟨c.toNat, 0, ⟨(r.take n).toArray⟩⟩) hT2 hb3; obtain ⟨⟨z0, z1, z2⟩, ⟨d0, d1, d2⟩, ⟨f0, f1, f2⟩, g0, g1, g2⟩ := hT3.cells))
            refine bodyPost_ret (v := .tuple #[(textK (r.take n)).v, .slice none 0 0, .int .i64 1]) (by simp [results, Tryz.results51, go_sem, textK, Val.v, valV, z0, z1, z2]) rfl ⟨two_set hT3 (textK (r.take n)), ?_⟩
            rw [HD.out]
            exact ⟨textK (r.take n), rfl⟩
      · have k0 : ((c.toNat : Int) == 0) = false := by simp; omega
        have k3 : ((c.toNat : Int) == 3) = false := by simp; omega
        have k4 : ¬ (4 : Int) < c.toNat := by omega
        by_cases h8 : r.length < 8
        · have HD : dec c r = .err 15 := by unfold dec; rw [if_neg h4, if_neg h0, if_neg h3, if_pos h8]
          have HD := Lib.hid HD
          go_wp2_with fail
          refine bodyPost_ret (v := .tuple #[valV c.toNat 0 ⟨#[]⟩, .slice none 0 0, .int .i64 15]) (by simp [results, Tryz.results51, go_sem, valV, z0, z1, z2]) rfl ⟨two_set hT ⟨c.toNat, 0, ⟨#[]⟩⟩, ?_⟩
          rw [HD.out]
          exact ⟨⟨c.toNat, 0, ⟨#[]⟩⟩, rfl⟩
        · obtain ⟨p1, o1, rfl, hp1, _⟩ := hB1 0 (by omega)
          have h8a : 8 ≤ ca1 := by omega
          have h8b : 8 ≤ r.length := by omega
          have hB8 : BytesAt w N (some ⟨p1, o1, none⟩) (r.take 8) := hB1.part (m := 0) (n := 8) (by omega) (fun _ => rfl)
          have hB2 : BytesAt w N (if ca1 = 8 then some ⟨p1, o1, none⟩ else some ⟨p1, o1 + 8, none⟩) (r.drop 8) := hB1.behind (fun hh => by rw [if_neg (by omega)])
          have hl8 : (r.take 8).length = 8 := by simp; omega
          have hB8 := hB8.below (hT.2.2.1.mono hN)
          clear hB1
          go_wp2_with fail
          go_loop [7, 24] (fun m i => ∃ k : Nat, i = .int .i64 k ∧ k ≤ 8 ∧ m = .int .u64 (numL ((r.take 8).take k))) (fun _ i => 8 - (intOf i).toNat)
          case atStart => exact ⟨0, rfl, Nat.zero_le _, rfl⟩
          case round =>
            obtain ⟨k, rfl, hk8, rfl⟩ := hrel
            by_cases hlt : k < 8
            · obtain ⟨p', o', he, _, c8⟩ := hB8 k (by omega)
              simp only [Option.some.injEq, Addr.mk.injEq, and_true] at he
              obtain ⟨rfl, rfl⟩ := he
              have hnt : numL ((r.take 8).take (k + 1)) = numStep (numL ((r.take 8).take k)) r[k] := by
                rw [numL_take (show k < (r.take 8).length by omega)]
                congr 1
                simp
              have HN := Lib.hid hnt
              clear hnt
              generalize numL ((r.take 8).take k) = m at HN ⊢
              go_wp2_with fail
              go_round
              case rel => exact ⟨k + 1, by go_num, by omega, by rw [HN.out, numStep]⟩
              case measure => simp [intOf]; omega
            · have e8 : (r.take 8).take k = r.take 8 := List.take_of_length_le (by omega)
              rw [e8]
              clear e8
              go_upto_region 11 with fail
              go_region
              go_upto_region 21 with fail
              have hT2 := hT.sndN (wrap64 (IntKind.u64.wrap (numL (r.take 8) - 4611686018427387904)))
              have hnv : numK (r.take 8) = wrap64 (IntKind.u64.wrap (numL (r.take 8) - 4611686018427387904)) := rfl
              clear z0 z1 z2 d0 d1 d2 f0 f1 f2 g0 g1 g2 hB8
              generalize (W.setCell ⟨w.heap.size + 1, 1, none⟩ (.int .i64 (wrap64 (IntKind.u64.wrap (numL (r.take 8) - 4611686018427387904))))).drew = W2 at hT2 ⊢
              generalize wrap64 (IntKind.u64.wrap (numL (r.take 8) - 4611686018427387904)) = m at hT2 hnv ⊢
              generalize (if ca1 = 8 then some (⟨p1, o1, none⟩ : Addr) else some ⟨p1, o1 + 8, none⟩) = ad2 at hB2 ⊢
              have HNV := Lib.hid hnv
              clear hnv
              obtain ⟨⟨z0, z1, z2⟩, ⟨d0, d1, d2⟩, ⟨f0, f1, f2⟩, g0, g1, g2⟩ := hT2.cells
              by_cases hf : Val.fine ⟨c.toNat, m, ⟨#[]⟩⟩ = true
              · have HD : dec c r = .ok ⟨c.toNat, m, ⟨#[]⟩⟩ 9 := by
                  unfold dec
                  rw [if_neg h4, if_neg h0, if_neg h3, if_neg h8, HNV.out, if_pos hf]
                have HD := Lib.hid HD
                go_wp2_with (first | (go_at_call 56; refine (Tryz.right _ _ _ (Nat.zero_le _) _).mono ?_; rintro e w3 ⟨rfl, hb3⟩; have hT3 := TwoIn.next (a := Val.zero) (b := ⟨c.toNat, m, ⟨#[]⟩⟩) hT2 hb3; obtain ⟨⟨z0, z1, z2⟩, ⟨d0, d1, d2⟩, ⟨f0, f1, f2⟩, g0, g1, g2⟩ := hT3.cells))
                refine bodyPost_ret (v := .tuple #[valV c.toNat m ⟨#[]⟩, .slice ad2 (r.length - 8) (ca1 - 8), .int .i64 0]) (by simp [results, Tryz.results51, go_sem, valV, z0, z1, z2]) rfl ⟨two_set hT3 ⟨c.toNat, m, ⟨#[]⟩⟩, ?_⟩
                rw [HD.out]
                refine ⟨ad2, ca1 - 8, by rw [show r.length + 1 - 9 = r.length - 8 by omega]; rfl, ?_, by omega⟩
                exact hB2.below ((two_set hT3 ⟨c.toNat, m, ⟨#[]⟩⟩).mono hN)
              · have HD : dec c r = .err 1 := by
                  unfold dec
                  rw [if_neg h4, if_neg h0, if_neg h3, if_neg h8, HNV.out, if_neg hf]
                have HD := Lib.hid HD
                have hff : Val.fine ⟨c.toNat, m, ⟨#[]⟩⟩ = false := by simpa using hf
                clear hf
                go_wp2_with (first | (go_at_call 56; refine (Tryz.right _ _ _ (Nat.zero_le _) _).mono ?_; rintro e w3 ⟨rfl, hb3⟩; have hT3 := TwoIn.next (a := Val.zero) (b := ⟨c.toNat, m, ⟨#[]⟩⟩) hT2 hb3; obtain ⟨⟨z0, z1, z2⟩, ⟨d0, d1, d2⟩, ⟨f0, f1, f2⟩, g0, g1, g2⟩ := hT3.cells))
                refine bodyPost_ret (v := .tuple #[valV c.toNat m ⟨#[]⟩, .slice none 0 0, .int .i64 1]) (by simp [results, Tryz.results51, go_sem, valV, z0, z1, z2]) rfl ⟨two_set hT3 ⟨c.toNat, m, ⟨#[]⟩⟩, ?_⟩
                rw [HD.out]
                exact ⟨⟨c.toNat, m, ⟨#[]⟩⟩, rfl⟩
end Go.Proofs

namespace Go.Proofs
open Go.RowKit
open Go.Lib (byteCells strCells)

def valCells (l : List Val) : List Value := l.flatMap fun x => [.int .i64 x.k, .int .i64 x.n, .string x.s]

theorem valCells_snoc (l : List Val) (x : Val) : valCells (l ++ [x]) = valCells l ++ [.int .i64 x.k, .int .i64 x.n, .string x.s] := by
  simp [valCells]

theorem dec_ok {c : UInt8} {r : List UInt8} {y : Val} {n : Nat} (h : dec c r = .ok y n) : 1 ≤ n ∧ n ≤ r.length + 1 := by
  have hb := idx0_bounds r
  unfold dec at h
  repeat' split at h
  all_goals first
    | (cases h; done)
    | (simp only [Dec.ok.injEq] at h; obtain ⟨_, rfl⟩ := h; omega)

def unk : List UInt8 → List Val × Int
  | [] => ([], 0)
  | c :: r => match dec c r with
    | .err k => ([], k)
    | .ok y n => if _h : 1 ≤ n then (if (unk ((c :: r).drop n)).2 = 0 then (y :: (unk ((c :: r).drop n)).1, 0) else ([], (unk ((c :: r).drop n)).2)) else ([], 0)
termination_by l => l.length
decreasing_by all_goals (simp only [List.length_drop, List.length_cons]; omega)

theorem unk_err {c : UInt8} {r : List UInt8} {k : Int} (h : dec c r = .err k) : unk (c :: r) = ([], k) := by
  rw [unk, h]

theorem unk_ok {c : UInt8} {r : List UInt8} {y : Val} {n : Nat} (h : dec c r = .ok y n) : unk (c :: r) = if (unk ((c :: r).drop n)).2 = 0 then (y :: (unk ((c :: r).drop n)).1, 0) else ([], (unk ((c :: r).drop n)).2) := by
  rw [unk, h]
  simp only
  rw [dif_pos (dec_ok h).1]

/-- What stands ahead of what is still to be read. -/
def after (l : List Val) (x : List Val × Int) : List Val × Int := if x.2 = 0 then (l ++ x.1, 0) else ([], x.2)

theorem after_nil (L : List UInt8) : after [] (unk L) = unk L := by
  unfold after
  split
  · rename_i h; rw [List.nil_append, ← h]
  · rename_i h
    match L with
    | [] => rw [unk] at h; simp at h
    | c :: r =>
      cases hd : dec c r with
      | err k => rw [unk_err hd]
      | ok y n =>
        rw [unk_ok hd] at h ⊢
        split
        · rename_i h2; rw [if_pos h2] at h; simp at h
        · rfl

theorem after_ok {c : UInt8} {r : List UInt8} {y : Val} {n : Nat} (l : List Val) (h : dec c r = .ok y n) : after l (unk (c :: r)) = after (l ++ [y]) (unk ((c :: r).drop n)) := by
  rw [unk_ok h]
  unfold after
  by_cases h2 : (unk ((c :: r).drop n)).2 = 0
  · simp [h2]
  · simp [h2]

theorem after_err {c : UInt8} {r : List UInt8} {k : Int} (l : List Val) (h : dec c r = .err k) (hk : k ≠ 0) : after l (unk (c :: r)) = ([], k) := by
  rw [unk_err h]
  unfold after
  rw [if_neg hk]

theorem after_end (l : List Val) : after l (unk []) = (l, 0) := by
  rw [unk]
  simp [after]

theorem dec_err {c : UInt8} {r : List UInt8} {k : Int} (h : dec c r = .err k) : k ≠ 0 := by
  unfold dec at h
  repeat' split at h
  all_goals first
    | (cases h; decide)
    | (cases h; done)

theorem alloc_one (w : World) (o : Obj) : (w.alloc o).heap.size = w.heap.size + 1 := by unfold World.alloc; simp

section
variable {P : Program}

theorem wp_append_val {o : Oper} {a : Act} {K : Act → World → Prop} {Q : Exit → Act → World → Prop} {w : World} (s x : Operand) (t : TypeId)
    (ho : o.op = .call { callee := .builtin .append, args := #[s, x], argTypes := #[t, t] })
    (B : Nat) (e : TypeId) (i : TypeInfo) (z : Value) (ht : P.underlying t = some (.slice e)) (hi : P.info? e = some i) (hz : i.zero = some z) (hzs : z.cells.size = 3) (hsize : i.size = 3) (hby : i.bytes = 32)
    (v : Value) (n : Nat) (xs : List Value) (W0 : World) (hb : Own B e 3 v n xs W0 w)
    (g : Nat) (y : Val) (hg : w.heap[g]? = some (.cells #[.int .i64 y.k, .int .i64 y.n, .string y.s] e)) (hlen : n + 1 ≤ 1000000000) (hs : a.eval s = v) (hx : a.eval x = .slice (some ⟨g, 0, none⟩) 1 1)
    (h : ∀ v' w', Own B e 3 v' (n + 1) (xs ++ [.int .i64 y.k, .int .i64 y.n, .string y.s]) W0 w' → K (a.put o.dst v') w') : o.wp P a w K Q := by
  refine wp_append_own w s x t ho B e i z 3 32 ht hi hz hsize hby hzs (by decide) v n xs hs hb.1 ⟨g, 0, none⟩ 1 1 [.int .i64 y.k, .int .i64 y.n, .string y.s] hx rfl ?_ ?_ (by unfold maxLen; omega) (by omega) hb.2.2 ?_
  · intro j u hj
    match j, hj with
    | 0, hj => simp at hj; subst hj; simp [Addr.add, World.cell?, hg]
    | 1, hj => simp at hj; subst hj; simp [Addr.add, World.cell?, hg]
    | 2, hj => simp at hj; subst hj; simp [Addr.add, World.cell?, hg]
    | (j + 3), hj => simp at hj
  · intro u hu
    simp only [List.mem_cons, List.mem_nil_iff, or_false] at hu
    rcases hu with rfl | rfl | rfl <;> rfl
  · intro v' w' ho' hgr _
    exact h v' w' (hb.grown ho' hgr)

theorem append_val {ops : Array Oper} {rest : List Oper} {o : Oper} {a : Act} {Q : Exit → Act → World → Prop} (hgd : o.guard = none) (s x : Operand) (t : TypeId)
    (ho : o.op = .call { callee := .builtin .append, args := #[s, x], argTypes := #[t, t] })
    (B : Nat) (e : TypeId) (i : TypeInfo) (z : Value) (ht : P.underlying t = some (.slice e)) (hi : P.info? e = some i) (hz : i.zero = some z) (hzs : z.cells.size = 3) (hsize : i.size = 3) (hby : i.bytes = 32)
    (v : Value) (n : Nat) (xs : List Value) (W0 w0 : World) (hb : Own B e 3 v n xs W0 w0)
    (y : Val) (hlen : n + 1 ≤ 1000000000) (hs : a.eval s = v) (hx : ∃ G, a.eval x = .slice (some ⟨G, 0, none⟩) 1 1 ∧ w0.heap.size = G)
    (h : ∀ v' w', Own B e 3 v' (n + 1) (xs ++ [.int .i64 y.k, .int .i64 y.n, .string y.s]) W0 w' → wpList P ops Q rest (a.put o.dst v') w') : wpList P ops Q (o :: rest) a (w0.alloc (.cells #[.int .i64 y.k, .int .i64 y.n, .string y.s] e)) :=
  wpList_plain hgd fun _ hK => wp_append_val s x t ho B e i z ht hi hz hzs hsize hby v n xs W0 (hb.alloc _) w0.heap.size y (heap_alloc_new w0 _) hlen hs (by obtain ⟨G, h1, h2⟩ := hx; rw [h1, h2]) fun v' w' h2 => hK _ _ (h v' w' h2)

theorem step_append_val {ops : Array Oper} {o : Oper} {a : Act} {K : Act → World → Prop} {Q : Exit → Act → World → Prop} {E : Prop} {w : World} (hgd : o.guard = none) (s x : Operand) (t : TypeId)
    (ho : o.op = .call { callee := .builtin .append, args := #[s, x], argTypes := #[t, t] })
    (B : Nat) (e : TypeId) (i : TypeInfo) (z : Value) (ht : P.underlying t = some (.slice e)) (hi : P.info? e = some i) (hz : i.zero = some z) (hzs : z.cells.size = 3) (hsize : i.size = 3) (hby : i.bytes = 32)
    (v : Value) (n : Nat) (xs : List Value) (W0 : World) (hb : Own B e 3 v n xs W0 w)
    (y : Val) (hlen : n + 1 ≤ 1000000000) (hs : a.eval s = v) (hx : ∃ g, a.eval x = .slice (some ⟨g, 0, none⟩) 1 1 ∧ w.heap[g]? = some (.cells #[.int .i64 y.k, .int .i64 y.n, .string y.s] e))
    (h : ∀ v' w', Own B e 3 v' (n + 1) (xs ++ [.int .i64 y.k, .int .i64 y.n, .string y.s]) W0 w' → K (a.put o.dst v') w') :
    if Region.wanted o (yielded ops a.tmps) = true then Oper.wp P o a w K Q else E := by
  have hw : Region.wanted o (yielded ops a.tmps) = true := by simp [Region.wanted, hgd]
  rw [if_pos hw]
  obtain ⟨g, hx, hg⟩ := hx
  exact wp_append_val s x t ho B e i z ht hi hz hzs hsize hby v n xs W0 hb g y hg hlen hs hx h
end

theorem Tryz.info23' : (Tryz.prog.info? 23).map (fun i => (i.zero, i.size, i.bytes)) = some (some (.agg #[.int .i64 0, .int .i64 0, .string ⟨#[]⟩]), 3, 32) := by kernel_rfl

theorem BytesAt.via {w0 w w' : World} {N : Nat} {ad : Option Addr} {L : List UInt8} (h : BytesAt w N ad L) (hb : Below N w0 w) (hb' : Below N w0 w') : BytesAt w' N ad L := by
  intro i hi
  obtain ⟨p, o, h1, h2, h3⟩ := h i hi
  exact ⟨p, o, h1, h2, ((hb'.cell h2).trans (hb.cell h2).symm).trans h3⟩

/-- The call has made a row of values, or says an error. -/
def MadeV (x : List Val × Int) (w : World) (e : Ending) (w' : World) : Prop := ∃ v, Own w.heap.size 23 3 v x.1.length (valCells x.1) w w' ∧ e = .returned (.tuple #[v, .int .i64 x.2])

set_option maxRecDepth 20000 in
set_option maxHeartbeats 1000000 in
theorem Tryz.fromKey (L : List UInt8) (ad : Option Addr) (ca : Nat) (w : World) (h : BytesAt w w.heap.size ad L) (la : L.length < 1000000000) (hca : L.length ≤ ca) :
    Calls Tryz.prog 22 #[.slice ad L.length ca] w (MadeV (unk L) w) := by
  obtain ⟨i23, hi23, hz23, hs23, hb23⟩ := info_parts Tryz.info23'
  go_enter Tryz.func22, Tryz.ntmps22
  go_wp2_with fail
  go_loopw [0, 4] (fun b o wr => ∃ (R : List UInt8) (acc : List Val) (ad : Option Addr) (ca : Nat), b = .slice ad R.length ca ∧ BytesAt wr w.heap.size ad R ∧ R.length ≤ ca ∧ R.length + acc.length ≤ L.length ∧ Own w.heap.size 23 3 o acc.length (valCells acc) w wr ∧ after acc (unk R) = unk L) (fun b _ _ => match b with | .slice _ n _ => n | _ => 0)
  case atStart => exact ⟨L, [], ad, ca, rfl, h, hca, Nat.le_refl _, Own.start w 23 3, after_nil L⟩
  case round =>
    obtain ⟨R, acc, ad1, ca1, rfl, hR, hca1, hlen, hO, hU⟩ := hrel
    have HU := Lib.hid hU
    clear hU
    cases R with
    | nil =>
      go_wp2_with fail
      go_ret2
      refine ⟨?_, ?_, ?_⟩
      rotate_left
      · rw [← HU.out, after_end]; exact hO
      · rw [← HU.out, after_end]; rfl
    | cons c r =>
      simp only [List.length_cons] at hca1 hlen
      go_wp2_with fail
      refine (Tryz.keyValue c r ad1 ca1 wr w.heap.size hO.2.2 hR (by omega) (by omega)).mono ?_
      rintro e w2 ⟨hb2, hk⟩
      have hO2 := hO.call hb2
      cases hd : dec c r with
      | err k =>
        rw [hd] at hk
        obtain ⟨y, rfl⟩ := hk
        have hE : after acc (unk (c :: r)) = ([], k) := after_err acc hd (dec_err hd)
        have hk0 : (k != 0) = true := by simpa using dec_err hd
        have HE := Lib.hid hE
        clear hd hE
        simp only [Val.v, valV]
        go_wp2_with fail
        go_ret2
        refine ⟨.slice none 0 0, ?_, ?_⟩
        rotate_left
        · rw [← HU.out, HE.out]; rfl
        · rw [← HU.out, HE.out]; exact ⟨World.ownsRow_nil _ _ _ _, (hO2.alloc _).2.1, (hO2.alloc _).2.2⟩
      | ok y n =>
        rw [hd] at hk
        obtain ⟨ad2, ca2, rfl, hB2, hca2⟩ := hk
        have hE := Lib.hid (after_ok acc hd)
        have hn := dec_ok hd
        clear hd
        have hal : acc.length + 1 ≤ 1000000000 := by omega
        have hOa := hO2.alloc (.cells #[.int .i64 y.k, .int .i64 y.n, .string y.s] 23)
        simp only [Val.v, valV]
        go_wp2_with (at_builtin; (refine append_val ?_ (.tmp 20) (.tmp 22) 36 ?_ w.heap.size 23 i23 _ Tryz.underlying36 hi23 hz23 rfl hs23 hb23 _ _ _ w _ hOa y hal ?_ ?_ ?_; rfl; rfl; rfl; exact ⟨_, rfl, alloc_one _ _⟩; intro v3 w3 hO3))
        go_roundw
        case rel =>
          refine ⟨(c :: r).drop n, acc ++ [y], ad2, ca2, ?_, ?_, ?_, ?_, ?_, ?_⟩
          · rw [List.length_drop]; rfl
          · exact hB2.via hO2.2.1 hO3.2.1
          · rw [List.length_drop, List.length_cons]; omega
          · rw [List.length_drop, List.length_cons, List.length_append, List.length_singleton]; omega
          · exact hO3.cast (by simp) (valCells_snoc acc y).symm
          · rw [← hE.out]; exact HU.out
        case measure => simp; omega
end Go.Proofs
