/- Of package value and of the document's package: the small functions, each by what it answers. No condition. -/
import Derived.Test.YtkpligcifakmjaaGreatDoorGate
import Derived.WalkKit
namespace Go.Proofs
open Go.RowKit

def inB (n low high : Int) : Bool := decide (low ≤ n) && decide (n ≤ high)

def valV (k n : Int) (s : ByteArray) : Value := .agg #[.int .i64 k, .int .i64 n, .string s]

def formB (k n : Int) (s : ByteArray) : Bool := if k == 0 then (n == 0) && s.toList.isEmpty else if k == 3 then n == 0 else inB k 1 4 && s.toList.isEmpty

theorem Tryz.within (n low high : Int) (w : World) : Calls Tryz.prog 48 #[.int .i64 n, .int .i64 low, .int .i64 high] w fun e w' => e = .returned (.bool (inB n low high)) ∧ w' = w := by
  go_enter Tryz.func48, Tryz.ntmps48
  go_wp2
  all_goals go_ret
  all_goals refine ⟨congrArg (fun b => Ending.returned (.bool b)) ?_, rfl⟩
  all_goals simp only [inB]
  · rename_i h; simp [h]
  · rename_i h; simp [show ¬ low ≤ n by omega]

theorem Tryz.within2 (n low high : Int) (w : World) : Calls Tryz.prog 57 #[.int .i64 n, .int .i64 low, .int .i64 high] w fun e w' => e = .returned (.bool (inB n low high)) ∧ w' = w := by
  go_enter Tryz.func57, Tryz.ntmps57
  go_wp2
  all_goals go_ret
  all_goals refine ⟨congrArg (fun b => Ending.returned (.bool b)) ?_, rfl⟩
  all_goals simp only [inB]
  · rename_i h; simp [h]
  · rename_i h; simp [show ¬ low ≤ n by omega]

theorem Tryz.form (k n : Int) (s : ByteArray) (w : World) : Calls Tryz.prog 49 #[valV k n s] w fun e w' => e = .returned (.bool (formB k n s)) ∧ Below w.heap.size w w' := by
  unfold valV
  go_enter Tryz.func49, Tryz.ntmps49
  go_wp2_with (first
    | (go_at_call 48; refine (Tryz.within _ _ _ _).mono ?_; rintro e w' ⟨rfl, rfl⟩))
  all_goals (try go_ret)
  all_goals refine ⟨congrArg (fun b => Ending.returned (.bool b)) ?_, by first | exact Below.refl _ _ | exact (Below.refl _ _).alloc (Nat.le_refl _) _⟩
  all_goals (show _ = formB _ _ _)
  all_goals (unfold formB; try simp [*])

def printC (b : UInt8) : Bool := decide (32 ≤ (b.toNat : Int)) && decide ((b.toNat : Int) ≤ 126)

def printB (s : ByteArray) : Bool := s.data.toList.all printC

theorem printB_no {s : ByteArray} {j : Nat} (h : j < s.size) (hc : printC s[j] = false) : printB s = false := by
  unfold printB
  rw [List.all_eq_false]
  exact ⟨s[j], Array.mem_toList_iff.mpr (Array.getElem_mem (xs := s.data) h), by simp [hc]⟩

theorem printB_yes {s : ByteArray} {j : Nat} (h : ¬ j < s.size) (hc : (s.data.toList.take j).all printC = true) : printB s = true := by
  unfold printB
  rwa [List.take_of_length_le (by simp only [Array.length_toList]; have : s.data.size = s.size := rfl; omega)] at hc

/-- The first k bytes are printable. -/
def okTo (s : ByteArray) (k : Nat) : Prop := (s.data.toList.take k).all printC = true
theorem okTo_zero (s : ByteArray) : okTo s 0 := rfl
theorem okTo_succ {s : ByteArray} {j : Nat} (h : okTo s j) (hlt : j < s.size) (h1 : 32 ≤ (s[j].toNat : Int)) (h2 : (s[j].toNat : Int) ≤ 126) : okTo s (j + 1) := by
  unfold okTo at *
  have : s.data.toList.take (j + 1) = s.data.toList.take j ++ [s[j]] := by rw [List.take_succ_eq_append_getElem (by simpa using hlt)]; rfl
  rw [this, List.all_append, h]
  simp only [List.all_cons, List.all_nil, printC, Bool.and_true, Bool.true_and, Bool.and_eq_true, decide_eq_true_eq]
  exact ⟨h1, h2⟩

def rangeB (k n : Int) (s : ByteArray) : Bool := if k == 1 then inB n 0 1 else if k == 2 then inB n (-999999999999999) 999999999999999 else if k == 4 then inB n 0 253402300799 else printB s

theorem Tryz.inRange (k n : Int) (s : ByteArray) (hs : s.size ≤ 9223372036854775807) (w : World) : Calls Tryz.prog 50 #[valV k n s] w fun e w' => e = .returned (.bool (rangeB k n s)) ∧ Below w.heap.size w w' := by
  unfold valV
  go_enter Tryz.func50, Tryz.ntmps50
  go_wp2_with (first
    | (go_at_call 48; refine (Tryz.within _ _ _ _).mono ?_; rintro e w' ⟨rfl, rfl⟩))
  case _ | _ | _ =>
    go_ret
    refine ⟨congrArg (fun b => Ending.returned (.bool b)) ?_, by first | exact Below.refl _ _ | exact (Below.refl _ _).alloc (Nat.le_refl _) _⟩
    show _ = rangeB _ _ _
    unfold rangeB
    simp [*]
  go_loop [24] (fun i => ∃ k : Nat, k ≤ s.size ∧ i = .int .i64 k ∧ okTo s k) (fun i => s.size - (intOf i).toNat)
  case atStart => exact ⟨0, Nat.zero_le _, rfl, okTo_zero s⟩
  case round =>
    obtain ⟨j, hj, rfl, HS⟩ := hrel
    by_cases hlt : j < s.size
    · go_wp2
      · go_ret
        refine ⟨congrArg (fun b => Ending.returned (.bool b)) ?_, by first | exact Below.refl _ _ | exact (Below.refl _ _).alloc (Nat.le_refl _) _⟩
        show _ = rangeB _ _ _
        unfold rangeB
        simp only [*, Bool.false_eq_true, if_false]
        exact (printB_no hlt (by unfold printC; simp only [Bool.and_eq_false_iff, decide_eq_false_iff_not]; omega)).symm
      · go_round
        case rel => exact ⟨_, _, _, ⟨j + 1, by omega, rfl, okTo_succ HS hlt (by omega) (by omega)⟩, rfl, rfl, by go_num⟩
        case measure => simp [intOf]; omega
      · go_ret
        refine ⟨congrArg (fun b => Ending.returned (.bool b)) ?_, by first | exact Below.refl _ _ | exact (Below.refl _ _).alloc (Nat.le_refl _) _⟩
        show _ = rangeB _ _ _
        unfold rangeB
        simp only [*, Bool.false_eq_true, if_false]
        exact (printB_no hlt (by unfold printC; simp only [Bool.and_eq_false_iff, decide_eq_false_iff_not]; omega)).symm
    · go_wp2
      go_ret
      refine ⟨congrArg (fun b => Ending.returned (.bool b)) ?_, by first | exact Below.refl _ _ | exact (Below.refl _ _).alloc (Nat.le_refl _) _⟩
      show _ = rangeB _ _ _
      unfold rangeB
      simp only [*, Bool.false_eq_true, if_false]
      exact (printB_yes hlt HS).symm

/-- What a call leaves of the box of a value. -/
theorem box_kept {w w' : World} {a b c : Value} {t : TypeId} (h : Below (w.alloc (.cells #[a, b, c] t)).heap.size (w.alloc (.cells #[a, b, c] t)) w') :
    w'.cell? ⟨w.heap.size, 0, none⟩ = some a ∧ w'.cell? ⟨w.heap.size, 1, none⟩ = some b ∧ w'.cell? ⟨w.heap.size, 2, none⟩ = some c ∧ w.heap.size < w'.heap.size ∧ Below w.heap.size w w' := by
  have hn : (w.alloc (.cells #[a, b, c] t)).heap.size = w.heap.size + 1 := by unfold World.alloc; simp
  have hb : w'.heap[w.heap.size]? = some (.cells #[a, b, c] t) := by
    rw [h.block _ (by omega)]
    unfold World.alloc
    simp
  have hs := h.size
  refine ⟨by simp [World.cell?, hb], by simp [World.cell?, hb], by simp [World.cell?, hb], by omega, ?_⟩
  have h1 : Below w.heap.size w (w.alloc (.cells #[a, b, c] t)) := (Below.refl _ _).alloc (Nat.le_refl _) _
  exact h1.trans (h.mono (by omega))

def checkN (kind k n : Int) (s : ByteArray) : Int := if !inB kind 1 4 then 4 else if !formB k n s then 3 else if (k != 0) && (k != kind) then 8 else if decide (100 < (s.size : Int)) then 2 else if !rangeB k n s then 1 else 0

theorem Tryz.check (kind k n : Int) (s : ByteArray) (hs : s.size ≤ 9223372036854775807) (w : World) : Calls Tryz.prog 10 #[.int .i64 kind, valV k n s] w fun e w' => e = .returned (.int .i64 (checkN kind k n s)) ∧ Below w.heap.size w w' := by
  unfold valV
  go_enter Tryz.func10, Tryz.ntmps10
  go_wp2_with (first
    | (go_at_call 48; refine (Tryz.within _ _ _ _).mono ?_; rintro e w' ⟨rfl, rfl⟩)
    | (go_at_call 49; refine (Tryz.form _ _ _ _).mono ?_; rintro e w' ⟨rfl, hb⟩; obtain ⟨c0, c1, c2, hz, hb'⟩ := box_kept hb; clear hb)
    | (go_at_call 50; refine (Tryz.inRange _ _ _ hs _).mono ?_; rintro e w2 ⟨rfl, hb2⟩))
  all_goals (go_ret; refine ⟨congrArg (fun z => Ending.returned (.int .i64 z)) ?_, ?_⟩)
  all_goals first
    | (show _ = checkN _ _ _ _; unfold checkN; simp [*]; done)
    | (show _ = checkN _ _ _ _; unfold checkN; grind)
    | exact (Below.refl _ _).alloc (Nat.le_refl _) _
    | exact hb'
    | exact hb'.trans (hb2.mono (by omega))
    | skip
end Go.Proofs
