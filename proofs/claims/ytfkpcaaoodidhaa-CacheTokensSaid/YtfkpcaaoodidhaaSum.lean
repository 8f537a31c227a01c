/- Of package cache and of the document's package: the sum of a token. The list has at most 100000000 numbers. -/
import Derived.Test.YtfkpcaaoodidhaaTok
import Derived.Test.YtfkpcaaoodidhaaApp
namespace Go.Proofs
open Go.RowKit
open Go.Lib (byteCells strCells)

theorem Try.info55' : (Try.prog.info? 55).map (fun i => (i.zero, i.size, i.bytes)) = some (some (.agg #[.int .i64 0, .int .i64 0, .string ⟨#[]⟩]), 3, 32) := by kernel_rfl

def numV2 (t : Int) : Val := ⟨2, t, ⟨#[]⟩⟩
def sumL (s : ByteArray) (u : Int) (l : List Int) : List Val := ⟨3, 0, s⟩ :: numV2 u :: l.map numV2

theorem sumL_take {s : ByteArray} {u : Int} {l : List Int} {k : Nat} (h : k < l.length) : sumL s u (l.take (k + 1)) = sumL s u (l.take k) ++ [numV2 l[k]] := by
  unfold sumL
  rw [List.take_succ_eq_append_getElem h, List.map_append]
  rfl

theorem sumL_length (s : ByteArray) (u : Int) (l : List Int) : (sumL s u l).length = l.length + 2 := by simp [sumL]

theorem row_of {w : World} {ad : Option Addr} {l : List Val} (h : Row3 w w.heap.size ad l) (hs : ∀ x ∈ l, x.s.size ≤ 9223372036854775807) : RowAt w w.heap.size ad l := by
  intro i hi
  obtain ⟨p, o, h1, h2, h3, h4, h5⟩ := h i hi
  exact ⟨p, o, h1, h2, h3, h4, h5, hs _ (List.getElem_mem hi)⟩

theorem sumL_small {s : ByteArray} (hs : s.size ≤ 9223372036854775807) (u : Int) (l : List Int) : ∀ x ∈ sumL s u l, x.s.size ≤ 9223372036854775807 := by
  intro x hx
  simp only [sumL, List.mem_cons, List.mem_map] at hx
  rcases hx with rfl | rfl | ⟨t, _, rfl⟩
  · exact hs
  · exact Nat.zero_le _
  · exact Nat.zero_le _

/-- Two values laid side by side are a row that the call owns. -/
theorem own_two (w w1 : World) (hw : Below w.heap.size w w1) (x y : Val) : Own w.heap.size 55 3 (.slice (some ⟨w1.heap.size, 0, none⟩) 2 2) 2 (valCells [x, y]) w (w1.alloc (.cells #[.int .i64 x.k, .int .i64 x.n, .string x.s, .int .i64 y.k, .int .i64 y.n, .string y.s] 55)) := by
  have hb := hw.alloc hw.size (.cells #[.int .i64 x.k, .int .i64 x.n, .string x.s, .int .i64 y.k, .int .i64 y.n, .string y.s] 55)
  refine ⟨⟨rfl, .inr ⟨w1.heap.size, 2, _, rfl, hw.size, heap_alloc_new w1 _, Nat.le_refl _, by unfold maxLen; omega, rfl, rfl⟩⟩, hb, hb.size⟩

set_option maxRecDepth 20000 in
set_option maxHeartbeats 1000000 in
theorem Try.tokenSum (s : ByteArray) (hs : s.size ≤ 9223372036854775807) (l : List Int) (ad : Option Addr) (ca : Nat) (u : Int) (w : World) (h : IntsAt w w.heap.size ad l) (la : l.length ≤ 100000000) :
    Calls Try.prog 18 #[.string s, .slice ad l.length ca, .int .i64 u] w fun e w' => e = .returned (.int .u64 (hashL (keyL (sumL s u l)))) ∧ Below w.heap.size w w' := by
  obtain ⟨i55, hi55, hz55, hs55, hb55⟩ := info_parts Try.info55'
  have hO0 := own_two w w (Below.refl _ _) ⟨3, 0, s⟩ (numV2 u)
  go_enter Try.func18, Try.ntmps18
  go_wp2_with fail
  go_loopw [7, 17] (fun o i wr => ∃ k : Nat, i = .int .i64 k ∧ k ≤ l.length ∧ Own w.heap.size 55 3 o (k + 2) (valCells (sumL s u (l.take k))) w wr) (fun _ i _ => l.length - (intOf i).toNat)
  case atStart => exact ⟨0, rfl, Nat.zero_le _, hO0⟩
  case round =>
    obtain ⟨k, rfl, hkl, hO⟩ := hrel
    by_cases hlt : k < l.length
    · obtain ⟨p, o, rfl, hp, c0, hz1, hz2⟩ := h.below hO.2.1 k hlt
      have HS := Lib.hid (sumL_take (s := s) (u := u) hlt)
      have hal : k + 2 + 1 ≤ 1000000000 := by omega
      go_wp2_with (at_builtin; refine append_val ?_ (.tmp 21) (.tmp 24) 56 ?_ w.heap.size 55 i55 _ Try.underlying56 hi55 hz55 rfl hs55 hb55 _ _ _ w _ hO (numV2 l[k]) hal ?_ ?_ ?_; rfl; rfl; rfl; exact ⟨_, rfl, rfl⟩; intro v3 w3 hO3)
      go_roundw
      case rel => exact ⟨k + 1, by go_num, by omega, hO3.cast (by omega) (by rw [HS.out]; exact (valCells_snoc _ _).symm)⟩
      case measure => simp [intOf]; omega
    · have e : l.take k = l := List.take_of_length_le (by omega)
      have hk : k = l.length := by omega
      subst hk
      rw [e] at hO
      clear e
      have hO' := hO.cast (sumL_length s u l).symm rfl
      obtain ⟨bd, cb, hv, hR⟩ := hO'.row
      subst hv
      have hbw := hO.2.1
      clear hO hO'
      go_wp2_with fail
      refine (Try.hash (sumL s u l) bd cb _ (row_of hR (sumL_small hs u l)) (by rw [sumL_length]; omega)).mono ?_
      rintro e w2 ⟨rfl, hb2⟩
      go_wp2_with fail
      go_ret
      exact ⟨rfl, hbw.trans (hb2.mono hbw.size)⟩

set_option maxRecDepth 20000 in
set_option maxHeartbeats 1000000 in
theorem Try.refSum (s : ByteArray) (hs : s.size ≤ 9223372036854775807) (l : List Int) (ad : Option Addr) (ca : Nat) (u : Int) (w : World) (h : IntsAt w w.heap.size ad l) (la : l.length ≤ 100000000) :
    Calls Try.prog 22 #[.string s, .slice ad l.length ca, .int .i64 u] w fun e w' => e = .returned (.int .u64 (hashL (keyL (sumL s u l)))) ∧ Below w.heap.size w w' := by
  obtain ⟨i55, hi55, hz55, hs55, hb55⟩ := info_parts Try.info55'
  go_enter Try.func22, Try.ntmps22
  go_wp2_with fail
  refine (Try.number u _).mono ?_
  rintro e w1 ⟨rfl, hb1⟩
  have hO0 := own_two w w1 hb1 ⟨3, 0, s⟩ (numV2 u)
  simp only [valV]
  go_wp2_with fail
  go_loopw [7, 17] (fun o i wr => ∃ k : Nat, i = .int .i64 k ∧ k ≤ l.length ∧ Own w.heap.size 55 3 o (k + 2) (valCells (sumL s u (l.take k))) w wr) (fun _ i _ => l.length - (intOf i).toNat)
  case atStart => exact ⟨0, rfl, Nat.zero_le _, hO0⟩
  case round =>
    obtain ⟨k, rfl, hkl, hO⟩ := hrel
    by_cases hlt : k < l.length
    · obtain ⟨p, o, rfl, hp, c0, hz1, hz2⟩ := h.below hO.2.1 k hlt
      have HS := Lib.hid (sumL_take (s := s) (u := u) hlt)
      have hal : k + 2 + 1 ≤ 1000000000 := by omega
      go_wp2_with fail
      refine (Try.number l[k] _).mono ?_
      rintro e w2 ⟨rfl, hb2⟩
      have hO2 := hO.call hb2
      simp only [valV]
      go_wp2_with (at_builtin; refine append_val ?_ (.tmp 21) (.tmp 24) 56 ?_ w.heap.size 55 i55 _ Try.underlying56 hi55 hz55 rfl hs55 hb55 _ _ _ w _ hO2 (numV2 l[k]) hal ?_ ?_ ?_; rfl; rfl; rfl; exact ⟨_, rfl, rfl⟩; intro v3 w3 hO3)
      go_roundw
      case rel => exact ⟨k + 1, by go_num, by omega, hO3.cast (by omega) (by rw [HS.out]; exact (valCells_snoc _ _).symm)⟩
      case measure => simp [intOf]; omega
    · have e : l.take k = l := List.take_of_length_le (by omega)
      have hk : k = l.length := by omega
      subst hk
      rw [e] at hO
      clear e
      have hO' := hO.cast (sumL_length s u l).symm rfl
      obtain ⟨bd, cb, hv, hR⟩ := hO'.row
      subst hv
      have hbw := hO.2.1
      clear hO hO'
      go_wp2_with fail
      refine (Try.keyed (sumL s u l) bd cb _ (row_of hR (sumL_small hs u l)) (by rw [sumL_length]; omega)).mono ?_
      rintro e w2 ⟨v2, rfl, hO2⟩
      obtain ⟨kd, kc, rfl, hK⟩ := hO2.bytes
      have hb2 := hO2.2.1
      have hkl := keyL_length (sumL s u l)
      rw [sumL_length] at hkl
      clear hO2
      go_wp2_with fail
      refine (Try.hashOf (keyL (sumL s u l)) kd kc _ hK (by omega)).mono ?_
      rintro e w3 ⟨rfl, rfl⟩
      go_wp2_with fail
      go_ret
      exact ⟨rfl, hbw.trans (hb2.mono hbw.size)⟩
end Go.Proofs
