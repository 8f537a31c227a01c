/- Of package value and of the document's package: the value at the beginning of a key. -/
import Derived.Test.YtkpligcifakmjaaGreatDoorHash
import Derived.BigRegion
namespace Go.Proofs
open Go.RowKit
open Go.Lib (byteCells strCells)

inductive Dec where
  | err (e : Int)
  | ok (v : Val) (n : Nat)

def numStep (n : Int) (c : UInt8) : Int := bits .or .u64 (IntKind.u64.wrap (n * 256)) (IntKind.u64.wrap (c.toNat : Int))
def numL (L : List UInt8) : Int := L.foldl numStep 0
def numV (L : List UInt8) : Int := wrap64 (IntKind.u64.wrap (numL L - 4611686018427387904))

theorem numL_take {L : List UInt8} {k : Nat} (h : k < L.length) : numL (L.take (k + 1)) = numStep (numL (L.take k)) L[k] := by
  unfold numL
  rw [List.take_succ_eq_append_getElem h, List.foldl_append]
  rfl

def idx0 (r : List UInt8) : Int := Lib.indexByte r 0

def textV (L : List UInt8) : Val := ⟨3, 0, ⟨L.toArray⟩⟩

/-- What stands at the beginning of bytes, the first of which is c. -/
def dec (c : UInt8) (r : List UInt8) : Dec :=
  if 4 < c.toNat then .err 4
  else if c.toNat = 0 then .ok Val.zero 1
  else if c.toNat = 3 then
    if idx0 r < 0 then .err 15
    else if (textV (r.take (idx0 r).toNat)).fine then .ok (textV (r.take (idx0 r).toNat)) ((idx0 r).toNat + 2) else .err 1
  else if r.length < 8 then .err 15
  else if (Val.fine ⟨c.toNat, numV (r.take 8), ⟨#[]⟩⟩) then .ok ⟨c.toNat, numV (r.take 8), ⟨#[]⟩⟩ 9 else .err 1

theorem indexByte_lt : ∀ (r : List UInt8) (c : UInt8), Lib.indexByte r c < r.length
  | [], _ => by simp [Lib.indexByte]
  | b :: l, c => by
    have := indexByte_lt l c
    unfold Lib.indexByte
    simp only [List.length_cons]
    split
    · omega
    · split <;> omega

theorem idx0_bounds (r : List UInt8) : -1 ≤ idx0 r ∧ idx0 r < r.length := ⟨Lib.indexByte_ge r 0, indexByte_lt r 0⟩

/-- A part of bytes lies behind its beginning. -/
theorem BytesAt.part {w : World} {N p o m n : Nat} {L : List UInt8} {sp : Option Addr} (h : BytesAt w N (some ⟨p, o, none⟩) L) (hm : n ≤ L.length - m) (hs : 0 < n → sp = some ⟨p, o + m, none⟩) :
    BytesAt w N sp ((L.drop m).take n) := by
  intro i hi
  have hlen : i < n ∧ m + i < L.length := by simp only [List.length_take, List.length_drop] at hi; omega
  obtain ⟨p', o', h1, h2, h3⟩ := h (m + i) hlen.2
  simp only [Option.some.injEq, Addr.mk.injEq, and_true] at h1
  obtain ⟨rfl, rfl⟩ := h1
  refine ⟨p, o + m, hs (by omega), h2, ?_⟩
  rw [show o + m + i = o + (m + i) by omega, h3]
  simp

theorem BytesAt.behind {w : World} {N p o m : Nat} {L : List UInt8} {sp : Option Addr} (h : BytesAt w N (some ⟨p, o, none⟩) L) (hs : m < L.length → sp = some ⟨p, o + m, none⟩) : BytesAt w N sp (L.drop m) := by
  have := h.part (m := m) (n := L.length - m) (sp := sp) (Nat.le_refl _) (fun hh => hs (by omega))
  rwa [List.take_of_length_le (by simp)] at this

theorem convert_none (w : World) (p : Option Addr) (c : Nat) : (convert 43 9 (.slice p 0 c)).run Tryz.prog w = .ok (.string ByteArray.empty) w := by
  rw [run_convert_bytes_string w 43 9 5 _ 0 c Tryz.underlying43 Tryz.underlying5 Tryz.underlying9]
  cases p with
  | none => simp [Conv.bytesToString]
  | some a => simp [Conv.bytesToString, loadCells, loadCellsFrom]

theorem BytesAt.string {w : World} {N : Nat} {ad : Option Addr} {L : List UInt8} (h : BytesAt w N ad L) (cap : Nat) : (convert 43 9 (.slice ad L.length cap)).run Tryz.prog w = .ok (.string ⟨L.toArray⟩) w := by
  cases L with
  | nil => exact convert_none w ad cap
  | cons c r =>
    obtain ⟨p, o, rfl, _, _⟩ := h 0 (by simp)
    have e : strOfNums ((c :: r).map fun c => (c.toNat : Int)) = ⟨(c :: r).toArray⟩ := by
      unfold strOfNums
      congr 1
      simp only [List.map_map]
      congr 1
      have : ((fun n : Int => UInt8.ofNat n.toNat) ∘ fun c : UInt8 => (c.toNat : Int)) = id := by
        funext x
        simp
      rw [this, List.map_id]
    rw [← e]
    refine run_convert_bytes_arg w 43 5 Tryz.underlying43 Tryz.underlying5 p o _ cap _ (by simp) (fun i hi => ?_) 9 Tryz.underlying9
    obtain ⟨p', o', h1, h2, h3⟩ := h i hi
    simp only [Option.some.injEq, Addr.mk.injEq, and_true] at h1
    obtain ⟨rfl, rfl⟩ := h1
    rw [h3]
    congr 1
    rw [List.getD_eq_getElem?_getD, List.getElem?_map, List.getElem?_eq_getElem hi]
    rfl

theorem idx0_step (r : List UInt8) (k : Nat) (h : k < r.length) (hk : ∀ j, j < k → (hj : j < r.length) → r[j] ≠ 0) : (r[k] = 0 → idx0 r = k) := by
  intro h0
  unfold idx0
  induction r generalizing k with
  | nil => simp at h
  | cons b l ih =>
    unfold Lib.indexByte
    match k, h, hk, h0 with
    | 0, h, hk, h0 => simp only [List.getElem_cons_zero] at h0; simp [h0]
    | k + 1, h, hk, h0 =>
      have hb : b ≠ 0 := hk 0 (by omega) (by simp)
      have := ih k (by simpa using h) (fun j hj hjl => hk (j + 1) (by omega) (by simpa using hjl)) (by simpa using h0)
      rw [this]
      simp [hb]
      try omega

theorem idx_more {r : List UInt8} {k : Nat} {hlt : k < r.length} (hk : ∀ j, j < k → (hj : j < r.length) → r[j] ≠ 0) (hn : ¬ r[k] = 0) : ∀ j, j < k + 1 → (hj : j < r.length) → r[j] ≠ 0 := by
  intro j hj hjl
  by_cases e : j < k
  · exact hk j e hjl
  · have : j = k := by omega
    subst this
    exact hn

theorem idx0_none (r : List UInt8) (hk : ∀ j, (hj : j < r.length) → r[j] ≠ 0) : idx0 r = -1 := by
  unfold idx0
  induction r with
  | nil => rfl
  | cons b l ih =>
    unfold Lib.indexByte
    have hb : b ≠ 0 := hk 0 (by simp)
    rw [ih (fun j hj => hk (j + 1) (by simpa using hj))]
    simp [hb]

set_option maxRecDepth 20000 in
theorem Tryz.index (r : List UInt8) (ad : Option Addr) (ca : Nat) (w : World) (h : BytesAt w w.heap.size ad r) (la : r.length ≤ 9223372036854775807) :
    Calls Tryz.prog 75 #[.slice ad r.length ca, .int .u8 0] w fun e w' => e = .returned (.int .i64 (idx0 r)) ∧ w' = w := by
  go_enter Tryz.func75, Tryz.ntmps75
  go_wp2_with fail
  go_loop [8] (fun i => ∃ k : Nat, i = .int .i64 k ∧ k ≤ r.length ∧ ∀ j, j < k → (hj : j < r.length) → r[j] ≠ 0) (fun i => r.length - (intOf i).toNat)
  case atStart => exact ⟨0, rfl, Nat.zero_le _, fun j hj => absurd hj (Nat.not_lt_zero j)⟩
  case round =>
    obtain ⟨k, rfl, hkl, hk⟩ := hrel
    by_cases hlt : k < r.length
    · obtain ⟨p, o, rfl, hp, c0⟩ := h k hlt
      have HS := Lib.hid (idx0_step r k hlt hk)
      have HK := Lib.hid hk
      clear hk
      by_cases h0 : r[k] = 0
      · rw [h0] at c0
        have HI := Lib.hid (HS.out h0)
        clear h0
        go_wp2_with fail
        go_ret
        exact ⟨by rw [HI.out]; rfl, rfl⟩
      · have hb : ((0 : Int) == (r[k].toNat : Int)) = false := by
          have : r[k].toNat ≠ 0 := fun e => h0 (UInt8.toNat_inj.1 (by simpa using e))
          simp; omega
        have HN := Lib.hid h0
        clear h0
        go_wp2_with fail
        go_round
        case rel => exact ⟨k + 1, by go_num, by omega, idx_more HK.out HN.out⟩
        case measure => simp [intOf]; omega
    · have HI := Lib.hid (idx0_none r (fun j hj => hk j (by omega) hj))
      clear hk
      go_wp2_with fail
      go_ret
      exact ⟨by rw [HI.out]; rfl, rfl⟩
end Go.Proofs
