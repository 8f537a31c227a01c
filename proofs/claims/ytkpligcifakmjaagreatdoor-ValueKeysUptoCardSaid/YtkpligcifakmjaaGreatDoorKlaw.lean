/- ValueKeys: value.Key, FromKey and Hash are as specified for all values and bytes, walked. The list has at most 1048576 values and the bytes are at most 1048576; the listed variables of Go's library lie as they are laid. -/
import Derived.Test.YtkpligcifakmjaaGreatDoorKl
namespace Go.Proofs
open Go.RowKit
open Go.Lib (byteCells strCells)

theorem unk_length : ∀ (m : Nat) (L : List UInt8), L.length ≤ m → (unk L).1.length ≤ L.length
  | 0, L, h => by
    have : L = [] := List.eq_nil_of_length_eq_zero (by omega)
    subst this
    rw [unk]
    simp
  | m + 1, L, h => by
    cases L with
    | nil => rw [unk]; simp
    | cons c r =>
      cases hd : dec c r with
      | err k => rw [unk_err hd]; simp
      | ok y n =>
        have hn := dec_ok hd
        have ih := unk_length m ((c :: r).drop n) (by simp only [List.length_drop, List.length_cons] at h ⊢; omega)
        rw [unk_ok hd]
        split
        · simp only [List.length_cons, List.length_drop] at ih ⊢; omega
        · simp

set_option maxRecDepth 20000 in
set_option maxHeartbeats 2000000 in
theorem Tryz.keysLaw (l : List Val) (K0 : List UInt8) (ad bd : Option Addr) (ca cb : Nat) (w : World) (hl : RowAt w w.heap.size ad l) (hb : BytesAt w w.heap.size bd K0) (la : l.length ≤ 1048576) (lb : K0.length ≤ 1048576) (hcb : K0.length ≤ cb) (htab : Lib.TabIs Tryz.prog w "strings.asciiSpace" .u8 Lib.asciiSpaceTab) :
    Calls Tryz.prog 6 #[.slice ad l.length ca, .slice bd K0.length cb] w fun e w' => e = .returned (.bool true) ∧ Below w.heap.size w w' := by
  have hkl := keyL_length l
  have hkn : (keyL l).length < 1000000000 := by omega
  have hu1 := unk_length _ (keyL l) (Nat.le_refl _)
  have hu2 := unk_length _ K0 (Nat.le_refl _)
  go_enter Tryz.func6, Tryz.ntmps6
  go_wp2_with fail
  refine (Tryz.key l ad ca w hl (by omega)).mono ?_
  rintro e w1 ⟨v1, rfl, hO1⟩
  have hw1 : Below w.heap.size w w1 := hO1.2.1
  obtain ⟨kd, kc, rfl, hK⟩ := hO1.bytes
  have hkc : (keyL l).length ≤ kc := by
    rcases hO1.1.2 with ⟨hv, hn⟩ | ⟨g, cap, cur, hv, _, _, hnc, _⟩
    · omega
    · simp only [Value.slice.injEq] at hv
      omega
  clear hO1
  go_wp2_with fail
  refine (Tryz.fromKey (keyL l) kd kc w1 hK hkn hkc).mono ?_
  rintro e w2 ⟨v2, hO2, rfl⟩
  obtain ⟨gd, gc, rfl, hG⟩ := hO2.row
  have hw12 : Below w1.heap.size w1 w2 := hO2.2.1
  have hw2 := hw1.trans (hw12.mono hw1.size)
  have hK2 := hK.later hw12
  clear hO2
  go_wp2_with fail
  refine (Tryz.unkeyed (keyL l) kd kc w2 hK2 hkn hkc).mono ?_
  rintro e w3 ⟨v3, hO3, rfl⟩
  obtain ⟨ud, uc, rfl, hU⟩ := hO3.row
  have hw23 : Below w2.heap.size w2 w3 := hO3.2.1
  have hw3 := hw2.trans (hw23.mono hw2.size)
  have hG3 := hG.later hw23
  have hK3 := hK2.later hw23
  clear hO3
  go_wp2_with fail
  refine (Tryz.fromKey K0 bd cb w3 (hb.later hw3) (by omega) hcb).mono ?_
  rintro e w4 ⟨v4, hO4, rfl⟩
  obtain ⟨pd, pc, rfl, hP⟩ := hO4.row
  have hw34 : Below w3.heap.size w3 w4 := hO4.2.1
  have hw4 := hw3.trans (hw34.mono hw3.size)
  have hG4 := hG3.later hw34
  have hU4 := hU.later hw34
  have hK4 := hK3.later hw34
  clear hO4
  go_wp2_with fail
  refine (Tryz.unkeyed K0 bd cb w4 (hb.later hw4) (by omega) hcb).mono ?_
  rintro e w5 ⟨v5, hO5, rfl⟩
  obtain ⟨qd, qc, rfl, hQ⟩ := hO5.row
  have hw45 : Below w4.heap.size w4 w5 := hO5.2.1
  have hw5 := hw4.trans (hw45.mono hw4.size)
  have hG5 := hG4.later hw45
  have hU5 := hU4.later hw45
  have hP5 := hP.later hw45
  have hK5 := hK4.later hw45
  clear hO5
  go_wp2_with fail
  refine (Tryz.values_calls w5 (Lib.tabBelow_of_tabIs htab _ hw5)).mono ?_
  rintro e w6 ⟨rfl, hw56⟩
  have hw6 := hw5.trans (hw56.mono hw5.size)
  go_wp2_with fail
  refine (Tryz.keyed l ad ca w6 (hl.later hw6) (by omega)).mono ?_
  rintro e w7 ⟨v7, rfl, hO7⟩
  have hw67 : Below w6.heap.size w6 w7 := hO7.2.1
  have hw7 := hw6.trans (hw67.mono hw6.size)
  obtain ⟨fd, fc, rfl, hF⟩ := hO7.bytes
  clear hO7
  go_wp2_with fail
  refine (Tryz.bytesEqual (keyL l) kd fd kc fc w7 ((hK5.later hw56).later hw67) hF).mono ?_
  rintro e w8 ⟨rfl, rfl⟩
  go_wp2_with fail
  refine (Tryz.valuesEqual (unk (keyL l)).1 gd ud gc uc w7 ((hG5.later hw56).later hw67) ((hU5.later hw56).later hw67) (by omega)).mono ?_
  rintro e w8 ⟨rfl, hw78⟩
  have hw8 := hw7.trans (hw78.mono hw7.size)
  go_wp2_with fail
  refine (Tryz.valuesEqual (unk K0).1 pd qd pc qc w8 (((hP5.later hw56).later hw67).later hw78) (((hQ.later hw56).later hw67).later hw78) (by omega)).mono ?_
  rintro e w9 ⟨rfl, hw89⟩
  have hw9 := hw8.trans (hw89.mono hw8.size)
  go_wp2_with fail
  refine (Tryz.hash l ad ca w9 (hl.later hw9) (by omega)).mono ?_
  rintro e w10 ⟨rfl, hw910⟩
  have hw10 := hw9.trans (hw910.mono hw9.size)
  go_wp2_with fail
  refine (Tryz.keyed l ad ca w10 (hl.later hw10) (by omega)).mono ?_
  rintro e w11 ⟨v11, rfl, hO11⟩
  have hw11 := hw10.trans (hO11.2.1.mono hw10.size)
  obtain ⟨xd, xc, rfl, hX⟩ := hO11.bytes
  clear hO11
  go_wp2_with fail
  refine (Tryz.hashOf (keyL l) xd xc w11 hX (by omega)).mono ?_
  rintro e w12 ⟨rfl, rfl⟩
  go_wp2_with fail
  go_ret
  exact ⟨rfl, hw11⟩
end Go.Proofs
