/- ValueChecks: value.Check is as specified for all kinds and values. No condition but that the listed variables of Go's library lie as they are laid. -/
import Derived.Test.YtkpligcifakmjaaGreatDoorRef
import Derived.Test.YtkpligcifakmjaaGreatDoorCards
import Derived.Test.YtkpligcifakmjaaGreatDoorTie
import Derived.ProofKit
import Derived.Deep.RegionHeld3
import Derived.OpenShut
import Derived.LaidMore
import Derived.Lay
import Derived.SevenTiedAt
import Derived.Stop.Joined
namespace Go.Proofs
open Go.RowKit

theorem below_call {w w2 : World} {o : Obj} (h : Below (w.alloc o).heap.size (w.alloc o) w2) : Below w.heap.size w w2 := by
  have hn : (w.alloc o).heap.size = w.heap.size + 1 := by unfold World.alloc; simp
  have h1 : Below w.heap.size w (w.alloc o) := (Below.refl _ _).alloc (Nat.le_refl _) _
  exact h1.trans (h.mono (by omega))

def valueFaultN (kind k n : Int) (s : ByteArray) : Int := if inB kind 1 4 then faultN kind k n s else 4

theorem Tryz.valueFault (kind k n : Int) (s : ByteArray) (hs : s.size ≤ 9223372036854775807) (w : World) : Calls Tryz.prog 51 #[.int .i64 kind, valV k n s] w fun e w' => e = .returned (.int .i64 (valueFaultN kind k n s)) ∧ Below w.heap.size w w' := by
  unfold valV
  go_enter Tryz.func51, Tryz.ntmps51
  go_wp2_with (first
    | (go_at_call 57; refine (Tryz.within2 _ _ _ _).mono ?_; rintro e w' ⟨rfl, rfl⟩)
    | (go_at_call 102; refine (Tryz.fault _ _ _ _ hs _).mono ?_; rintro e w2 ⟨rfl, hb⟩))
  all_goals (go_ret; refine ⟨congrArg (fun z => Ending.returned (.int .i64 z)) ?_, ?_⟩)
  all_goals first
    | (show _ = valueFaultN _ _ _ _; rfl)
    | (show _ = valueFaultN _ _ _ _; unfold valueFaultN; simp [*]; done)
    | (show _ = valueFaultN _ _ _ _; unfold valueFaultN; grind)
    | (show _ = valueFaultN _ _ _ _; unfold valueFaultN inB; grind)
    | exact (Below.refl _ _).alloc (Nat.le_refl _) _
    | exact below_call hb
    | exact hb
    | skip

theorem Tryz.lawChecked (kind k n : Int) (s : ByteArray) (hs : s.size ≤ 9223372036854775807) (w : World) : Calls Tryz.prog 11 #[.int .i64 kind, valV k n s] w fun e w' => e = .returned (.int .i64 (valueFaultN kind k n s)) ∧ Below w.heap.size w w' := by
  unfold valV
  go_enter Tryz.func11, Tryz.ntmps11
  go_wp2_with (first
    | (go_at_call 51; refine (Tryz.valueFault _ _ _ _ hs _).mono ?_; rintro e w2 ⟨rfl, hb⟩))
  all_goals (go_ret; refine ⟨congrArg (fun z => Ending.returned (.int .i64 z)) ?_, ?_⟩)
  all_goals first
    | (show _ = valueFaultN _ _ _ _; rfl)
    | (show _ = valueFaultN _ _ _ _; unfold valueFaultN; simp [*]; done)
    | (show _ = valueFaultN _ _ _ _; unfold valueFaultN; grind)
    | (show _ = valueFaultN _ _ _ _; unfold valueFaultN inB; grind)
    | exact (Below.refl _ _).alloc (Nat.le_refl _) _
    | exact below_call hb
    | exact hb
    | skip

/-- The law's own sense: both say the same. -/
theorem check_agrees (kind k n : Int) (s : ByteArray) : checkN kind k n s = valueFaultN kind k n s := by
  have he : s.toList.isEmpty = true → printB s = true := fun h => by
    unfold printB
    rw [← ByteArray.toList_eq, List.isEmpty_iff.mp h]
    rfl
  unfold valueFaultN checkN faultN formB rangeB
  generalize s.toList.isEmpty = e at *
  generalize printB s = p at *
  generalize (s.size : Int) = z
  unfold inB
  by_cases h0 : k = 0
  · subst h0; cases e <;> cases p <;> simp_all <;> grind
  by_cases h1 : k = 1
  · subst h1; cases e <;> cases p <;> simp_all <;> grind
  by_cases h2 : k = 2
  · subst h2; cases e <;> cases p <;> simp_all <;> grind
  by_cases h3 : k = 3
  · subst h3; cases e <;> cases p <;> simp_all <;> grind
  by_cases h4 : k = 4
  · subst h4; cases e <;> cases p <;> simp_all <;> grind
  · have a1 : (decide (0 ≤ k) && decide (k ≤ 4)) = false := by
      cases hh : decide (0 ≤ k) && decide (k ≤ 4) with
      | false => rfl
      | true => simp only [Bool.and_eq_true, decide_eq_true_eq] at hh; omega
    have a2 : (decide (1 ≤ k) && decide (k ≤ 4)) = false := by
      cases hh : decide (1 ≤ k) && decide (k ≤ 4) with
      | false => rfl
      | true => simp only [Bool.and_eq_true, decide_eq_true_eq] at hh; omega
    have b0 : (k == 0) = false := by simpa using h0
    have b3 : (k == 3) = false := by simpa using h3
    simp only [a1, a2, b0, b3, Bool.false_eq_true, if_false, Bool.false_and, Bool.not_false, Bool.true_or, if_true]
    grind

/-- What is held of a world behind a call: the box of the value lies as it lay. -/
def Kept (w w' : World) : Prop := Below w.heap.size w w' ∧ w.heap.size < w'.heap.size

theorem held_start (w : World) (a b c : Value) (t : TypeId) : (w.alloc (.cells #[a, b, c] t)).drew.cell? ⟨w.heap.size, 0, none⟩ = some a ∧ (w.alloc (.cells #[a, b, c] t)).drew.cell? ⟨w.heap.size, 1, none⟩ = some b ∧ (w.alloc (.cells #[a, b, c] t)).drew.cell? ⟨w.heap.size, 2, none⟩ = some c ∧ Kept w (w.alloc (.cells #[a, b, c] t)).drew := by
  obtain ⟨h1, h2, h3, h4, h5⟩ := box_kept (Below.refl _ (w.alloc (.cells #[a, b, c] t)))
  exact ⟨h1, h2, h3, h5.drew, h4⟩

theorem held_call {w w1 w2 : World} {a b c : Value} (h : w1.cell? ⟨w.heap.size, 0, none⟩ = some a ∧ w1.cell? ⟨w.heap.size, 1, none⟩ = some b ∧ w1.cell? ⟨w.heap.size, 2, none⟩ = some c ∧ Kept w w1) (hb : Below w1.heap.size w1 w2) :
    w2.cell? ⟨w.heap.size, 0, none⟩ = some a ∧ w2.cell? ⟨w.heap.size, 1, none⟩ = some b ∧ w2.cell? ⟨w.heap.size, 2, none⟩ = some c ∧ Kept w w2 := by
  obtain ⟨c0, c1, c2, hk⟩ := h
  exact ⟨(hb.cell hk.2).trans c0, (hb.cell hk.2).trans c1, (hb.cell hk.2).trans c2, hk.1.trans (hb.mono (Nat.le_of_lt hk.2)), Nat.lt_of_lt_of_le hk.2 hb.size⟩

theorem held_tab {w w1 : World} {a b c : Value} (h : Lib.TabIs Tryz.prog w "strings.asciiSpace" .u8 Lib.asciiSpaceTab) (hs : w1.cell? ⟨w.heap.size, 0, none⟩ = some a ∧ w1.cell? ⟨w.heap.size, 1, none⟩ = some b ∧ w1.cell? ⟨w.heap.size, 2, none⟩ = some c ∧ Kept w w1) : Lib.TabIs Tryz.prog w1 "strings.asciiSpace" .u8 Lib.asciiSpaceTab := Lib.tabBelow_of_tabIs h w1 hs.2.2.2.1

theorem Tryz.law (kind k n : Int) (s : ByteArray) (hs : s.size ≤ 9223372036854775807) (w : World) (htab : Lib.TabIs Tryz.prog w "strings.asciiSpace" .u8 Lib.asciiSpaceTab) :
    Calls Tryz.prog 3 #[.int .i64 kind, valV k n s] w fun e w' => e = .returned (.bool true) ∧ Below w.heap.size w w' := by
  unfold valV
  go_enter Tryz.func3, Tryz.ntmps3
  go_wp2
  go_region_held3 (fun w' => w'.cell? ⟨w.heap.size, 0, none⟩ = some (.int .i64 k) ∧ w'.cell? ⟨w.heap.size, 1, none⟩ = some (.int .i64 n) ∧ w'.cell? ⟨w.heap.size, 2, none⟩ = some (.string s) ∧ Kept w w')
    (first | exact held_start _ _ _ _ _ | exact held_call (by assumption) (by assumption))
    (first
    | (go_at_call 9; refine (Tryz.values_calls _ (held_tab htab (by assumption))).mono ?_; rintro e w1 ⟨rfl, hb1⟩)
    | (go_at_call 10; refine (Tryz.check _ _ _ _ hs _).mono ?_; rintro e w2 ⟨rfl, hb2⟩)
    | (go_at_call 11; refine (Tryz.lawChecked _ _ _ _ hs _).mono ?_; rintro e w3 ⟨rfl, hb3⟩))
  rename_i hheld
  have hk : Below w.heap.size w w3 := hheld.2.2.2.1
  clear hheld hb1 hb2 hb3
  go_wp2
  go_ret
  refine ⟨congrArg (fun b => Ending.returned (.bool b)) ?_, hk⟩
  show (checkN kind k n s == valueFaultN kind k n s) = true
  rw [check_agrees]
  exact beq_self_eq_true _

end Go.Proofs
