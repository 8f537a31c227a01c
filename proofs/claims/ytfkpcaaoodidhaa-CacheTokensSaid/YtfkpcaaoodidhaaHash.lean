/- Of package value and of the document's package: the hash of the bytes of a list. The list has at most 1000000000 values. -/
import Derived.Test.YtfkpcaaoodidhaaKeys
namespace Go.Proofs
open Go.RowKit
open Go.Lib (byteCells strCells)

/-- At the address lie the bytes of a list, all in blocks below N. -/
def BytesAt (w : World) (N : Nat) (ad : Option Addr) (L : List UInt8) : Prop :=
  ∀ i (h : i < L.length), ∃ p o, ad = some ⟨p, o, none⟩ ∧ p < N ∧ w.cell? ⟨p, o + i, none⟩ = some (.int .u8 L[i].toNat)

theorem BytesAt.below {w w' : World} {N : Nat} {ad : Option Addr} {L : List UInt8} (h : BytesAt w N ad L) (hb : Below N w w') : BytesAt w' N ad L := by
  intro i hi
  obtain ⟨p, o, h1, h2, h3⟩ := h i hi
  exact ⟨p, o, h1, h2, (hb.cell h2).trans h3⟩

theorem BytesAt.later {w w' : World} {ad : Option Addr} {L : List UInt8} (h : BytesAt w w.heap.size ad L) (hb : Below w.heap.size w w') : BytesAt w' w'.heap.size ad L := by
  intro i hi
  obtain ⟨p, o, h1, h2, h3⟩ := h.below hb i hi
  exact ⟨p, o, h1, Nat.lt_of_lt_of_le h2 hb.size, h3⟩

theorem Own.bytes {B : Nat} {v : Value} {L : List UInt8} {W0 w : World} (h : Own B 5 1 v L.length (byteCells L) W0 w) : ∃ ad cap, v = .slice ad L.length cap ∧ BytesAt w w.heap.size ad L := by
  rcases h.1.2 with ⟨hv, hn⟩ | ⟨g, cap, cur, hv, hb, hg, _⟩
  · refine ⟨none, 0, by rw [hv, hn], fun i hi => ?_⟩
    omega
  · refine ⟨some ⟨g, 0, none⟩, cap, hv, fun i hi => ⟨g, 0, rfl, (Array.getElem?_eq_some_iff.1 hg).1, ?_⟩⟩
    have := h.1.cells (g := g) (by rw [hv]; rfl) i (.int .u8 L[i].toNat) (by simp [byteCells, hi])
    rwa [show (⟨g, 0, none⟩ : Addr).add i = ⟨g, 0 + i, none⟩ by unfold Addr.add; split <;> simp_all] at this

def hashStep (n : Int) (c : UInt8) : Int := IntKind.u64.wrap (bits .xor .u64 n (IntKind.u64.wrap (c.toNat : Int)) * 1099511628211)
def hashL (L : List UInt8) : Int := L.foldl hashStep 14695981039346656037

theorem hashL_take {L : List UInt8} {k : Nat} (h : k < L.length) : hashL (L.take (k + 1)) = hashStep (hashL (L.take k)) L[k] := by
  unfold hashL
  rw [List.take_succ_eq_append_getElem h, List.foldl_append]
  rfl

set_option maxRecDepth 20000 in
theorem Try.hashOf (L : List UInt8) (ad : Option Addr) (ca : Nat) (w : World) (h : BytesAt w w.heap.size ad L) (la : L.length ≤ 9223372036854775807) :
    Calls Try.prog 42 #[.slice ad L.length ca] w fun e w' => e = .returned (.int .u64 (hashL L)) ∧ w' = w := by
  go_enter Try.func42, Try.ntmps42
  go_wp2_with fail
  go_loop [3, 8] (fun n i => ∃ k : Nat, i = .int .i64 k ∧ k ≤ L.length ∧ n = .int .u64 (hashL (L.take k))) (fun _ i => L.length - (intOf i).toNat)
  case atStart => exact ⟨0, rfl, Nat.zero_le _, rfl⟩
  case round =>
    obtain ⟨k, rfl, hkl, rfl⟩ := hrel
    by_cases hlt : k < L.length
    · obtain ⟨p, o, rfl, hp, c0⟩ := h k hlt
      have HH := Lib.hid (hashL_take hlt)
      generalize hashL (L.take k) = H at HH ⊢
      go_wp2_with fail
      go_round
      case rel => exact ⟨k + 1, by go_num, by omega, by rw [HH.out, hashStep]⟩
      case measure => simp [intOf]; omega
    · go_wp2_with fail
      go_ret
      have : L.take k = L := List.take_of_length_le (by omega)
      rw [this]
      exact ⟨rfl, rfl⟩

set_option maxRecDepth 20000 in
theorem Try.hash (l : List Val) (ad : Option Addr) (ca : Nat) (w : World) (h : RowAt w w.heap.size ad l) (la : l.length ≤ 1000000000) : Calls Try.prog 36 #[.slice ad l.length ca] w fun e w' => e = .returned (.int .u64 (hashL (keyL l))) ∧ Below w.heap.size w w' := by
  have hlen := keyL_length l
  go_enter Try.func36, Try.ntmps36
  go_wp2_with fail
  refine (Try.key l ad ca w h la).mono ?_
  rintro e W ⟨v, rfl, hO⟩
  obtain ⟨bd, cap, rfl, hB⟩ := hO.bytes
  have hW := hO.2.1
  clear hO
  generalize hL : keyL l = L at hlen hB ⊢
  have HL := Lib.hid hL
  clear hL
  go_wp2_with fail
  go_loop [3, 9] (fun n i => ∃ k : Nat, i = .int .i64 k ∧ k ≤ L.length ∧ n = .int .u64 (hashL (L.take k))) (fun _ i => L.length - (intOf i).toNat)
  case atStart => exact ⟨0, rfl, Nat.zero_le _, rfl⟩
  case round =>
    obtain ⟨k, rfl, hkl, rfl⟩ := hrel
    by_cases hlt : k < L.length
    · obtain ⟨p, o, rfl, hp, c0⟩ := hB k hlt
      have HH := Lib.hid (hashL_take hlt)
      generalize hashL (L.take k) = H at HH ⊢
      go_wp2_with fail
      go_round
      case rel => exact ⟨k + 1, by go_num, by omega, by rw [HH.out, hashStep]⟩
      case measure => simp [intOf]; omega
    · go_wp2_with fail
      go_ret
      have : L.take k = L := List.take_of_length_le (by omega)
      rw [this]
      exact ⟨by rw [HL.out]; rfl, hW⟩
end Go.Proofs
