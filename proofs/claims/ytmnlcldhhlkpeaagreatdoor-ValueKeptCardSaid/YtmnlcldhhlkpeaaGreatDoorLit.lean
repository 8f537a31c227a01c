/- What the library's variables hold, and the library's functions in the words of the walks. No condition. -/
import Derived.Test.YtmnlcldhhlkpeaaGreatDoorBackP
import Derived.Test.YtmnlcldhhlkpeaaGreatDoorShelf2
import Derived.Lib.AppendIntMem
import Derived.Lib.ItoaLen
namespace Go.Proofs
open Go.RowKit

/-- What the library's variables hold, all below N. -/
structure Lit (N : Nat) (w : World) : Prop where
  pow : Lib.TabBelow Tryz.prog N w "internal/strconv.uint64pow10" .u64 Lib.pow10Tab
  ml : ∃ m : Int, w.cell? ⟨0, 0, none⟩ = some (.int .i64 m)
  es : ∃ ev : Value, w.cell? ⟨1, 0, none⟩ = some ev ∧ (ev = .nilIface ∨ ∃ te pe, ev = .iface te pe)
  er : ∃ ev : Value, w.cell? ⟨2, 0, none⟩ = some ev ∧ (ev = .nilIface ∨ ∃ te pe, ev = .iface te pe)
  lt : 2 < N

theorem Lit.on {N : Nat} {w w' : World} (h : Lit N w) (hb : Below N w w') : Lit N w' := by
  obtain ⟨h1, ⟨m, h2⟩, ⟨e1, h3, h4⟩, ⟨e2, h5, h6⟩, h7⟩ := h
  exact ⟨h1.on hb, ⟨m, (hb.cell (show 0 < N by omega)).trans h2⟩, ⟨e1, (hb.cell (show 1 < N by omega)).trans h3, h4⟩, ⟨e2, (hb.cell (show 2 < N by omega)).trans h5, h6⟩, h7⟩

theorem grow_below (w : World) (k : Nat) (os : Array Obj) : Below w.heap.size w (Sort.grow (w.drewN k) os) := by
  have hs : ∀ i, i < w.heap.size → (Sort.grow (w.drewN k) os).heap[i]? = w.heap[i]? := fun i hi => by
    show (w.heap ++ os)[i]? = _
    rw [Array.getElem?_append_left hi]
  have hz : w.heap.size ≤ (Sort.grow (w.drewN k) os).heap.size := by
    show _ ≤ (w.heap ++ os).size
    simp
  exact ⟨rfl, rfl, rfl, hz, fun i hi => hs i hi⟩

theorem set3_block {W : World} {g : Nat} {a b c : Value} (x : Val) (h : W.heap[g]? = some (.cells #[a, b, c] 23)) :
    (((W.setCell ⟨g, 0, none⟩ (.int .i64 x.k)).setCell ⟨g, 1, none⟩ (.int .i64 x.n)).setCell ⟨g, 2, none⟩ (.string x.s)).heap[g]? = some (.cells #[.int .i64 x.k, .int .i64 x.n, .string x.s] 23) := by
  rw [block_set (block_set (block_set h))]
  rfl

theorem set3_below {N g : Nat} {w W : World} {a b c : Value} (h : Below N w W) (hg : N ≤ g) : Below N w (((W.setCell ⟨g, 0, none⟩ a).setCell ⟨g, 1, none⟩ b).setCell ⟨g, 2, none⟩ c) :=
  Below.setCell (Below.setCell (Below.setCell h hg _) hg _) hg _

theorem Tryz.itoaF {N : Nat} (n : Int) (h0 : -9223372036854775808 ≤ n) (h1 : n ≤ 9223372036854775807) (w : World) (h : Lit N w) :
    Calls Tryz.prog 58 #[.int .i64 n] w fun e w' => e = .returned (.string (itoaB n)) ∧ Below w.heap.size w w' := by
  refine (Tryz.strconv_Itoa n h0 h1 w h.pow.here).mono ?_
  rintro e w' ⟨rfl, k, os, rfl⟩
  exact ⟨rfl, grow_below w k os⟩

theorem Tryz.repeatF (s : ByteArray) (c : Int) (h0 : 0 ≤ c) (h1 : c ≤ 1000) (hs : s.size ≤ 1000) (w : World) :
    Calls Tryz.prog 81 #[.string s, .int .i64 c] w fun e w' => e = .returned (.string ⟨(Lib.repeatL s.data.toList c.toNat).toArray⟩) ∧ Below w.heap.size w w' := by
  obtain ⟨k, rfl⟩ := Int.eq_ofNat_of_zero_le h0
  have h2 : s.size * k ≤ 1000 * 1000 := Nat.mul_le_mul hs (by omega)
  exact Tryz.strings_Repeat s k w (by omega) (by omega)

theorem Tryz.atoiF {N : Nat} (s : ByteArray) (hs : s.size ≤ 281474976710656) (w : World) (h : Lit N w) (hN : N ≤ w.heap.size) :
    Calls Tryz.prog 87 #[.string s] w fun e w' => (∃ v : Int, Lib.atoiAll s.data.toList = .ok v ∧ -9223372036854775808 ≤ v ∧ v ≤ 9223372036854775807 ∧ e = .returned (.tuple #[.int .i64 v, .nilIface]) ∧ Below w.heap.size w w') ∨
      ((∀ v, Lib.atoiAll s.data.toList ≠ .ok v) ∧ (∃ (v : Int) (t : TypeId) (p : Value), e = .returned (.tuple #[.int .i64 v, .iface t p])) ∧ Below w.heap.size w w') := by
  obtain ⟨e1, h3, h4⟩ := h.es
  obtain ⟨e2, h5, h6⟩ := h.er
  rcases ha : Lib.atoiAll s.data.toList with v | _ | _
  · obtain ⟨b1, b2⟩ := Lib.atoiAll_bounds ha
    refine (Tryz.strconv_Atoi_ok s (by omega) v ha w).mono ?_
    rintro e w' ⟨rfl, hw⟩
    refine Or.inl ⟨v, rfl, b1, b2, rfl, ?_⟩
    rcases hw with rfl | ⟨t, rfl⟩
    · exact Below.refl _ _
    · exact Lib.bytesWorld_below _ _ _
  · refine (Any.strconv_Atoi_syntax Tryz.laysC172 s hs ha e1 w h3 h4).mono ?_
    rintro e w' ⟨n, rfl, _, _, hb⟩
    exact Or.inr ⟨fun v hv => (by cases hv), ⟨_, _, _, rfl⟩, hb⟩
  · refine (Tryz.strconv_Atoi_range s hs ha e2 w h5 h6).mono ?_
    rintro e w' ⟨n, rfl, _, _, hb⟩
    exact Or.inr ⟨fun v hv => (by cases hv), ⟨_, _, _, rfl⟩, hb⟩

theorem Tryz.replaceF {N : Nat} (s old new : ByteArray) (hs : s.size ≤ 1000) (h1 : 1 ≤ old.size) (hn : new.size ≤ 10) (w : World) (h : Lit N w) :
    Calls Tryz.prog 59 #[.string s, .string old, .string new] w fun e w' => e = .returned (.string ⟨(Lib.replaceAll s.data.toList old.data.toList new.data.toList).toArray⟩) ∧ Below w.heap.size w w' := by
  obtain ⟨m, hm⟩ := h.ml
  have hc : Lib.countB s old * new.size ≤ 1001 * 10 := Nat.mul_le_mul (Nat.le_trans (Lib.count_le _ _) (by rw [← Lib.size_eq]; omega)) hn
  exact Tryz.strings_ReplaceAll s old new m w (by omega) hm h1 (by omega)

theorem padB_eq (n : Int) (k c : Int) (h : c.toNat = k.toNat - (Lib.itoa n).length) : (⟨(Lib.repeatL [48] c.toNat).toArray⟩ ++ itoaB n : ByteArray) = padB n k.toNat := by
  unfold padB padL itoaB
  rw [h]
  apply ByteArray.ext
  simp [ByteArray.data_append]

theorem itoaB_size (n : Int) : (itoaB n).size = (Lib.itoa n).length := by
  rw [Lib.size_eq]
  unfold itoaB
  simp

set_option maxRecDepth 20000 in
theorem Tryz.padded {N : Nat} (n k : Int) (hn : 0 ≤ n ∧ n ≤ 253402300799) (hk : 0 ≤ k ∧ k ≤ 4) (w : World) (h : Lit N w) :
    Calls Tryz.prog 94 #[.int .i64 n, .int .i64 k] w fun e w' => e = .returned (.string (padB n k.toNat)) ∧ Below w.heap.size w w' := by
  have hl := Lib.itoa_length_le n (by omega) (by omega)
  have hz := itoaB_size n
  have hr : ∀ c, (Lib.repeatL [48] c).length = c := fun c => by simp [Lib.repeatL_length]
  go_enter Tryz.func94, Tryz.ntmps94
  go_wp2_with (first
    | (go_at_call 58; refine (Tryz.itoaF n (by omega) (by omega) _ h).mono ?_; rintro e w1 ⟨rfl, hb1⟩)
    | (go_at_call 81; refine (Tryz.repeatF _ _ (by omega) (by omega) (by decide) _).mono ?_; rintro e w2 ⟨rfl, hb2⟩))
  go_ret
  refine ⟨congrArg (fun z => Ending.returned (.string z)) ?_, hb1.trans (hb2.mono hb1.size)⟩
  exact padB_eq n k _ (by omega)

end Go.Proofs
