/- Of the library: Equal and Contains of rows of strings. No condition. -/
import Derived.Test.YtaikipdjknhjdaaGreatDoorStrm
namespace Go.Proofs
open Go.RowKit Go.Ke

/-- At the address lie the strings of a list. -/
def StrsAt (w : World) (ad : Option Addr) (l : List ByteArray) : Prop :=
  ∀ i (h : i < l.length), ∃ p o, ad = some ⟨p, o, none⟩ ∧ w.cell? ⟨p, o + i, none⟩ = some (.string l[i])

theorem StrsAt.next {w w' : World} {ad : Option Addr} {l : List ByteArray} (h : StrsAt w ad l) (hb : Below w.heap.size w w') : StrsAt w' ad l := fun i hi => by
  obtain ⟨p, o, h1, h2⟩ := h i hi
  exact ⟨p, o, h1, cell_kept hb h2⟩

set_option maxRecDepth 20000 in
theorem Tryz.equalS (l : List ByteArray) (ad bd : Option Addr) (ca cb : Nat) (w : World) (ha : StrsAt w ad l) (hb : StrsAt w bd l) (hl : l.length ≤ 1000000) :
    Calls Tryz.prog 9 #[.slice ad l.length ca, .slice bd l.length cb] w fun e w' => e = .returned (.bool true) ∧ Below w.heap.size w w' := by
  go_enter Tryz.func9, Tryz.ntmps9
  go_wp2_with fail
  go_loopw [13] (fun v wr => ∃ k : Nat, v = .int .i64 k ∧ k ≤ l.length ∧ Below w.heap.size w wr) (fun v _ => l.length - (intOf v).toNat)
  case atStart => exact ⟨0, rfl, Nat.zero_le _, Below.refl _ _⟩
  case round =>
    obtain ⟨k, rfl, hk, hwr⟩ := hrel
    by_cases hlt : k < l.length
    · obtain ⟨p, o, rfl, d0⟩ := (ha.next hwr) k hlt
      obtain ⟨p2, o2, rfl, d1⟩ := (hb.next hwr) k hlt
      generalize l[k] = s at *
      go_upto_region 6 with fail
      go_quiet (fail)
      go_wp2_with fail
      go_roundw
      case rel => exact ⟨k + 1, by go_num, by omega, belowDrewN hwr⟩
      case measure => simp [intOf]; omega
    · go_wp2_with fail
      go_ret
      exact ⟨rfl, hwr⟩

end Go.Proofs

namespace Go.Proofs
open Go.RowKit Go.Ke

set_option maxRecDepth 20000 in
theorem Tryz.indexS (l : List ByteArray) (s : ByteArray) (ad : Option Addr) (ca : Nat) (w : World) (ha : StrsAt w ad l) (hl : l.length ≤ 1000000) :
    Calls Tryz.prog 37 #[.slice ad l.length ca, .string s] w fun e w' => ∃ z : Int, e = .returned (.int .i64 z) ∧ Hid (decide (0 ≤ z) = l.any fun x => s.toList == x.toList) ∧ w' = w := by
  go_enter Tryz.func37, Tryz.ntmps37
  go_wp2_with fail
  go_loop [8] (fun v => ∃ k : Nat, v = .int .i64 k ∧ k ≤ l.length ∧ Hid (∀ (j : Nat) (h : j < l.length), j < k → (s.toList == l[j].toList) = false)) (fun v => l.length - (intOf v).toNat)
  case atStart => exact ⟨0, rfl, Nat.zero_le _, Lib.hid fun j _ hj => absurd hj (Nat.not_lt_zero j)⟩
  case round =>
    obtain ⟨k, rfl, hk, hsp⟩ := hrel
    by_cases hlt : k < l.length
    · obtain ⟨p, o, rfl, d0⟩ := ha k hlt
      have hmem : l[k] ∈ l := List.getElem_mem hlt
      generalize hx : l[k] = x at d0 hmem
      replace hx := Lib.hid hx
      replace hmem := Lib.hid hmem
      by_cases e : s.toList = x.toList
      · have e1 : (s.toList == x.toList) = true := beq_iff_eq.mpr e
        have e2 := Lib.hid e1
        clear e
        go_wp2_with fail
        go_ret
        exact ⟨k, rfl, Lib.hid (by rw [List.any_eq_true.mpr ⟨x, hmem.out, e2.out⟩]; simp), rfl⟩
      · have e1 : (s.toList == x.toList) = false := beq_eq_false_iff_ne.mpr e
        have e2 := Lib.hid e1
        clear e
        go_wp2_with fail
        go_round
        case rel =>
          refine ⟨k + 1, by go_num, by omega, Lib.hid fun j hj hjk => ?_⟩
          by_cases e : j = k
          · subst e; rw [hx.out]; exact e2.out
          · exact hsp.out j hj (by omega)
        case measure => simp [intOf]; omega
    · have hkq : l.length ≤ k := by omega
      go_wp2_with fail
      go_ret
      exact ⟨-1, rfl, Lib.hid (by
        have : (l.any fun x => s.toList == x.toList) = false := List.any_eq_false.mpr fun x hx => by
          obtain ⟨j, hj, e⟩ := List.mem_iff_getElem.mp hx
          rw [← e, hsp.out j hj (by omega)]
          decide
        rw [this]; rfl), rfl⟩

set_option maxRecDepth 20000 in
theorem Tryz.containsS (l : List ByteArray) (s : ByteArray) (ad : Option Addr) (ca : Nat) (w : World) (ha : StrsAt w ad l) (hl : l.length ≤ 1000000) :
    Calls Tryz.prog 18 #[.slice ad l.length ca, .string s] w fun e w' => e = .returned (.bool (l.any fun x => s.toList == x.toList)) ∧ w' = w := by
  have hk := Tryz.indexS l s ad ca w ha hl
  generalize (l.any fun x => s.toList == x.toList) = r at *
  go_enter Tryz.func18, Tryz.ntmps18
  go_wp2_with (first | (go_at_call 37; refine hk.mono ?_; rintro e w2 ⟨z, rfl, hz, rfl⟩))
  go_ret
  exact ⟨by rw [← hz.out]; first | rfl | simp, rfl⟩

end Go.Proofs
