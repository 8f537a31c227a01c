/- Of the document's package of values: the small functions, each by what it answers. No condition. -/
import Derived.Test.YtkpligcifakmjaaGreatDoorVal
import Derived.Lib.ConvBytes
import Derived.Lib.SmallJoins
namespace Go.Proofs
open Go.RowKit

theorem bytes_below (w : World) (e : TypeId) (s : ByteArray) : Below w.heap.size w (Lib.bytesWorld w e s) :=
  ⟨rfl, rfl, rfl, by rw [Lib.bytesWorld_size]; omega, fun k hk => Lib.bytesWorld_at_old w e s k hk⟩

set_option maxRecDepth 20000 in
theorem Tryz.plain (s : ByteArray) (hs : s.size ≤ 9223372036854775807) (w : World) : Calls Tryz.prog 149 #[.string s] w fun e w' => e = .returned (.bool (printB s)) ∧ Below w.heap.size w w' := by
  have hcv := Lib.run_convert_string_bytes (P := Tryz.prog) w 9 43 5 s (u := .string) Tryz.underlying9 Tryz.underlying43 Tryz.underlying5
  have hcell : ∀ j : Nat, j < s.size → (Lib.bytesWorld w 5 s).cell? ⟨w.heap.size, j, none⟩ = some (.int .u8 (s.data.toList.getD j 0).toNat) := fun j hj => Lib.bytesWorld_cell w 5 s j hj
  have hbel : Below w.heap.size w (Lib.bytesWorld w 5 s) := bytes_below w 5 s
  generalize Lib.bytesWorld w 5 s = W1 at hcv hcell hbel
  generalize grownCap w s.size 0 5 = cap at hcv
  go_enter Tryz.func149, Tryz.ntmps149
  go_wp2
  go_loop [8] (fun i => ∃ k : Nat, k ≤ s.size ∧ i = .int .i64 k ∧ okTo s k) (fun i => s.size - (intOf i).toNat)
  case atStart => exact ⟨0, Nat.zero_le _, rfl, okTo_zero s⟩
  case round =>
    obtain ⟨j, hj, rfl, HS⟩ := hrel
    by_cases hlt : j < s.size
    · have hcj := hcell j hlt
      rw [show s.data.toList.getD j 0 = s[j] by
        rw [List.getD_eq_getElem?_getD, List.getElem?_eq_getElem (by simpa using hlt)]; rfl] at hcj
      clear hcell
      go_wp2
      · go_ret
        refine ⟨congrArg (fun b => Ending.returned (.bool b)) ?_, hbel⟩
        exact (printB_no hlt (by unfold printC; simp only [Bool.and_eq_false_iff, decide_eq_false_iff_not]; omega)).symm
      · go_round
        case rel => exact ⟨j + 1, by omega, by go_num, okTo_succ HS hlt (by omega) (by omega)⟩
        case measure => simp [intOf]; omega
      · go_ret
        refine ⟨congrArg (fun b => Ending.returned (.bool b)) ?_, hbel⟩
        exact (printB_no hlt (by unfold printC; simp only [Bool.and_eq_false_iff, decide_eq_false_iff_not]; omega)).symm
    · go_wp2
      go_ret
      refine ⟨congrArg (fun b => Ending.returned (.bool b)) ?_, hbel⟩
      exact (printB_yes hlt HS).symm

def faultN (kind k n : Int) (s : ByteArray) : Int :=
  if !inB k 0 4 || ((k != 3) && !s.toList.isEmpty) || (((k == 3) || (k == 0)) && (n != 0)) then 3
  else if (kind != 0) && ((k != 0) && (k != kind)) then 8
  else if decide (100 < (s.size : Int)) then 2
  else if !printB s || ((k == 1) && !inB n 0 1) || ((k == 2) && !inB n (-999999999999999) 999999999999999) || ((k == 4) && !inB n 0 253402300799) then 1
  else 0

set_option maxRecDepth 20000 in
set_option maxHeartbeats 1000000 in
theorem Tryz.fault (kind k n : Int) (s : ByteArray) (hs : s.size ≤ 9223372036854775807) (w : World) : Calls Tryz.prog 102 #[.int .i64 kind, valV k n s] w fun e w' => e = .returned (.int .i64 (faultN kind k n s)) ∧ Below w.heap.size w w' := by
  unfold valV
  go_enter Tryz.func102, Tryz.ntmps102
  go_wp2_with (first
    | (go_at_call 57; refine (Tryz.within2 _ _ _ _).mono ?_; rintro e w' ⟨rfl, rfl⟩)
    | (go_at_call 149; refine (Tryz.plain _ hs _).mono ?_; rintro e w2 ⟨rfl, hb⟩; obtain ⟨c0, c1, c2, hz, hb'⟩ := box_kept hb; clear hb))
  all_goals (go_ret; refine ⟨congrArg (fun z => Ending.returned (.int .i64 z)) ?_, ?_⟩)
  all_goals first
    | (show _ = faultN _ _ _ _; unfold faultN; simp [*]; done)
    | (show _ = faultN _ _ _ _; unfold faultN; grind)
    | exact (Below.refl _ _).alloc (Nat.le_refl _) _
    | exact hb'
    | skip
end Go.Proofs
