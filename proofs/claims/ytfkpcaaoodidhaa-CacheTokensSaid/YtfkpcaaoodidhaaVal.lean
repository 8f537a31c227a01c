/- Of package value and of the document's package of values: the small functions, each by what it answers. No condition. -/
import Derived.Test.YtfkpcaaoodidhaaGate
import Derived.WalkKit
import Derived.Lib.ConvBytes
import Derived.Lib.SmallJoins
import Derived.Deep.RegionHeld3
namespace Go.Proofs
open Go.RowKit

def inB (n low high : Int) : Bool := decide (low ≤ n) && decide (n ≤ high)

def valV (k n : Int) (s : ByteArray) : Value := .agg #[.int .i64 k, .int .i64 n, .string s]

def formB (k n : Int) (s : ByteArray) : Bool := if k == 0 then (n == 0) && s.toList.isEmpty else if k == 3 then n == 0 else inB k 1 4 && s.toList.isEmpty

theorem Try.within (n low high : Int) (w : World) : Calls Try.prog 54 #[.int .i64 n, .int .i64 low, .int .i64 high] w fun e w' => e = .returned (.bool (inB n low high)) ∧ w' = w := by
  go_enter Try.func54, Try.ntmps54
  go_wp2
  all_goals go_ret
  all_goals refine ⟨congrArg (fun b => Ending.returned (.bool b)) ?_, rfl⟩
  all_goals simp only [inB]
  · rename_i h; simp [h]
  · rename_i h; simp [show ¬ low ≤ n by omega]

theorem Try.within2 (n low high : Int) (w : World) : Calls Try.prog 69 #[.int .i64 n, .int .i64 low, .int .i64 high] w fun e w' => e = .returned (.bool (inB n low high)) ∧ w' = w := by
  go_enter Try.func69, Try.ntmps69
  go_wp2
  all_goals go_ret
  all_goals refine ⟨congrArg (fun b => Ending.returned (.bool b)) ?_, rfl⟩
  all_goals simp only [inB]
  · rename_i h; simp [h]
  · rename_i h; simp [show ¬ low ≤ n by omega]

theorem Try.form (k n : Int) (s : ByteArray) (w : World) : Calls Try.prog 55 #[valV k n s] w fun e w' => e = .returned (.bool (formB k n s)) ∧ Below w.heap.size w w' := by
  unfold valV
  go_enter Try.func55, Try.ntmps55
  go_wp2_with (first
    | (go_at_call 54; refine (Try.within _ _ _ _).mono ?_; rintro e w' ⟨rfl, rfl⟩))
  all_goals (try go_ret)
  all_goals refine ⟨congrArg (fun b => Ending.returned (.bool b)) ?_, by first | exact Below.refl _ _ | exact (Below.refl _ _).alloc (Nat.le_refl _) _⟩
  all_goals (show _ = formB _ _ _)
  all_goals (unfold formB; try simp [*])

def printC (b : UInt8) : Bool := decide (32 ≤ (b.toNat : Int)) && decide ((b.toNat : Int) ≤ 126)

def printB (s : ByteArray) : Bool := s.data.toList.all printC

theorem printB_no {s : ByteArray} {j : Nat} (h : j < s.size) (hc : printC s[j] = false) : printB s = false := by
  unfold printB
  rw [List.all_eq_false]
  exact ⟨s[j], Array.mem_toList_iff.mpr (Array.getElem_mem (xs := s.data) h), by simp [hc]⟩

theorem printB_yes {s : ByteArray} {j : Nat} (h : ¬ j < s.size) (hc : (s.data.toList.take j).all printC = true) : printB s = true := by
  unfold printB
  rwa [List.take_of_length_le (by simp only [Array.length_toList]; have : s.data.size = s.size := rfl; omega)] at hc

/-- The first k bytes are printable. -/
def okTo (s : ByteArray) (k : Nat) : Prop := (s.data.toList.take k).all printC = true
theorem okTo_zero (s : ByteArray) : okTo s 0 := rfl
theorem okTo_succ {s : ByteArray} {j : Nat} (h : okTo s j) (hlt : j < s.size) (h1 : 32 ≤ (s[j].toNat : Int)) (h2 : (s[j].toNat : Int) ≤ 126) : okTo s (j + 1) := by
  unfold okTo at *
  have : s.data.toList.take (j + 1) = s.data.toList.take j ++ [s[j]] := by rw [List.take_succ_eq_append_getElem (by simpa using hlt)]; rfl
  rw [this, List.all_append, h]
  simp only [List.all_cons, List.all_nil, printC, Bool.and_true, Bool.true_and, Bool.and_eq_true, decide_eq_true_eq]
  exact ⟨h1, h2⟩

def rangeB (k n : Int) (s : ByteArray) : Bool := if k == 1 then inB n 0 1 else if k == 2 then inB n (-999999999999999) 999999999999999 else if k == 4 then inB n 0 253402300799 else printB s

theorem Try.inRange (k n : Int) (s : ByteArray) (hs : s.size ≤ 9223372036854775807) (w : World) : Calls Try.prog 56 #[valV k n s] w fun e w' => e = .returned (.bool (rangeB k n s)) ∧ Below w.heap.size w w' := by
  unfold valV
  go_enter Try.func56, Try.ntmps56
  go_wp2_with (first
    | (go_at_call 54; refine (Try.within _ _ _ _).mono ?_; rintro e w' ⟨rfl, rfl⟩))
  case _ | _ | _ =>
    go_ret
    refine ⟨congrArg (fun b => Ending.returned (.bool b)) ?_, by first | exact Below.refl _ _ | exact (Below.refl _ _).alloc (Nat.le_refl _) _⟩
    show _ = rangeB _ _ _
    unfold rangeB
    simp [*]
  go_loop [24] (fun i => ∃ k : Nat, k ≤ s.size ∧ i = .int .i64 k ∧ okTo s k) (fun i => s.size - (intOf i).toNat)
  case atStart => exact ⟨0, Nat.zero_le _, rfl, okTo_zero s⟩
  case round =>
    obtain ⟨j, hj, rfl, HS⟩ := hrel
    by_cases hlt : j < s.size
    · go_wp2
      · go_ret
        refine ⟨congrArg (fun b => Ending.returned (.bool b)) ?_, by first | exact Below.refl _ _ | exact (Below.refl _ _).alloc (Nat.le_refl _) _⟩
        show _ = rangeB _ _ _
        unfold rangeB
        simp only [*, Bool.false_eq_true, if_false]
        exact (printB_no hlt (by unfold printC; simp only [Bool.and_eq_false_iff, decide_eq_false_iff_not]; omega)).symm
      · go_round
        case rel => exact ⟨_, _, _, ⟨j + 1, by omega, rfl, okTo_succ HS hlt (by omega) (by omega)⟩, rfl, rfl, by go_num⟩
        case measure => simp [intOf]; omega
      · go_ret
        refine ⟨congrArg (fun b => Ending.returned (.bool b)) ?_, by first | exact Below.refl _ _ | exact (Below.refl _ _).alloc (Nat.le_refl _) _⟩
        show _ = rangeB _ _ _
        unfold rangeB
        simp only [*, Bool.false_eq_true, if_false]
        exact (printB_no hlt (by unfold printC; simp only [Bool.and_eq_false_iff, decide_eq_false_iff_not]; omega)).symm
    · go_wp2
      go_ret
      refine ⟨congrArg (fun b => Ending.returned (.bool b)) ?_, by first | exact Below.refl _ _ | exact (Below.refl _ _).alloc (Nat.le_refl _) _⟩
      show _ = rangeB _ _ _
      unfold rangeB
      simp only [*, Bool.false_eq_true, if_false]
      exact (printB_yes hlt HS).symm

/-- What a call leaves of the box of a value. -/
theorem box_kept {w w' : World} {a b c : Value} {t : TypeId} (h : Below (w.alloc (.cells #[a, b, c] t)).heap.size (w.alloc (.cells #[a, b, c] t)) w') :
    w'.cell? ⟨w.heap.size, 0, none⟩ = some a ∧ w'.cell? ⟨w.heap.size, 1, none⟩ = some b ∧ w'.cell? ⟨w.heap.size, 2, none⟩ = some c ∧ w.heap.size < w'.heap.size ∧ Below w.heap.size w w' := by
  have hn : (w.alloc (.cells #[a, b, c] t)).heap.size = w.heap.size + 1 := by unfold World.alloc; simp
  have hb : w'.heap[w.heap.size]? = some (.cells #[a, b, c] t) := by
    rw [h.block _ (by omega)]
    unfold World.alloc
    simp
  have hs := h.size
  refine ⟨by simp [World.cell?, hb], by simp [World.cell?, hb], by simp [World.cell?, hb], by omega, ?_⟩
  have h1 : Below w.heap.size w (w.alloc (.cells #[a, b, c] t)) := (Below.refl _ _).alloc (Nat.le_refl _) _
  exact h1.trans (h.mono (by omega))

def checkN (kind k n : Int) (s : ByteArray) : Int := if !inB kind 1 4 then 4 else if !formB k n s then 3 else if (k != 0) && (k != kind) then 8 else if decide (100 < (s.size : Int)) then 2 else if !rangeB k n s then 1 else 0

theorem Try.check (kind k n : Int) (s : ByteArray) (hs : s.size ≤ 9223372036854775807) (w : World) : Calls Try.prog 31 #[.int .i64 kind, valV k n s] w fun e w' => e = .returned (.int .i64 (checkN kind k n s)) ∧ Below w.heap.size w w' := by
  unfold valV
  go_enter Try.func31, Try.ntmps31
  go_wp2_with (first
    | (go_at_call 54; refine (Try.within _ _ _ _).mono ?_; rintro e w' ⟨rfl, rfl⟩)
    | (go_at_call 55; refine (Try.form _ _ _ _).mono ?_; rintro e w' ⟨rfl, hb⟩; obtain ⟨c0, c1, c2, hz, hb'⟩ := box_kept hb; clear hb)
    | (go_at_call 56; refine (Try.inRange _ _ _ hs _).mono ?_; rintro e w2 ⟨rfl, hb2⟩))
  all_goals (go_ret; refine ⟨congrArg (fun z => Ending.returned (.int .i64 z)) ?_, ?_⟩)
  all_goals first
    | (show _ = checkN _ _ _ _; unfold checkN; simp [*]; done)
    | (show _ = checkN _ _ _ _; unfold checkN; grind)
    | exact (Below.refl _ _).alloc (Nat.le_refl _) _
    | exact hb'
    | exact hb'.trans (hb2.mono (by omega))
    | skip

theorem bytes_below (w : World) (e : TypeId) (s : ByteArray) : Below w.heap.size w (Lib.bytesWorld w e s) :=
  ⟨rfl, rfl, rfl, by rw [Lib.bytesWorld_size]; omega, fun k hk => Lib.bytesWorld_at_old w e s k hk⟩

set_option maxRecDepth 20000 in
theorem Try.plain (s : ByteArray) (hs : s.size ≤ 9223372036854775807) (w : World) : Calls Try.prog 89 #[.string s] w fun e w' => e = .returned (.bool (printB s)) ∧ Below w.heap.size w w' := by
  have hcv := Lib.run_convert_string_bytes (P := Try.prog) w 9 78 5 s (u := .string) Try.underlying9 Try.underlying78 Try.underlying5
  have hcell : ∀ j : Nat, j < s.size → (Lib.bytesWorld w 5 s).cell? ⟨w.heap.size, j, none⟩ = some (.int .u8 (s.data.toList.getD j 0).toNat) := fun j hj => Lib.bytesWorld_cell w 5 s j hj
  have hbel : Below w.heap.size w (Lib.bytesWorld w 5 s) := bytes_below w 5 s
  generalize Lib.bytesWorld w 5 s = W1 at hcv hcell hbel
  generalize grownCap w s.size 0 5 = cap at hcv
  go_enter Try.func89, Try.ntmps89
  go_wp2
  go_loop [8] (fun i => ∃ k : Nat, k ≤ s.size ∧ i = .int .i64 k ∧ okTo s k) (fun i => s.size - (intOf i).toNat)
  case atStart => exact ⟨0, Nat.zero_le _, rfl, okTo_zero s⟩
  case round =>
    obtain ⟨j, hj, rfl, HS⟩ := hrel
    by_cases hlt : j < s.size
    · have hcj := hcell j hlt
      rw [show s.data.toList.getD j 0 = s[j] by
        rw [List.getD_eq_getElem?_getD, List.getElem?_eq_getElem (by simpa using hlt)]; rfl] at hcj
      clear hcell
      go_wp2
      · go_ret
        refine ⟨congrArg (fun b => Ending.returned (.bool b)) ?_, hbel⟩
        exact (printB_no hlt (by unfold printC; simp only [Bool.and_eq_false_iff, decide_eq_false_iff_not]; omega)).symm
      · go_round
        case rel => exact ⟨j + 1, by omega, by go_num, okTo_succ HS hlt (by omega) (by omega)⟩
        case measure => simp [intOf]; omega
      · go_ret
        refine ⟨congrArg (fun b => Ending.returned (.bool b)) ?_, hbel⟩
        exact (printB_no hlt (by unfold printC; simp only [Bool.and_eq_false_iff, decide_eq_false_iff_not]; omega)).symm
    · go_wp2
      go_ret
      refine ⟨congrArg (fun b => Ending.returned (.bool b)) ?_, hbel⟩
      exact (printB_yes hlt HS).symm

def faultN (kind k n : Int) (s : ByteArray) : Int :=
  if !inB k 0 4 || ((k != 3) && !s.toList.isEmpty) || (((k == 3) || (k == 0)) && (n != 0)) then 3
  else if (kind != 0) && ((k != 0) && (k != kind)) then 8
  else if decide (100 < (s.size : Int)) then 2
  else if !printB s || ((k == 1) && !inB n 0 1) || ((k == 2) && !inB n (-999999999999999) 999999999999999) || ((k == 4) && !inB n 0 253402300799) then 1
  else 0

set_option maxRecDepth 20000 in
set_option maxHeartbeats 1000000 in
theorem Try.fault (kind k n : Int) (s : ByteArray) (hs : s.size ≤ 9223372036854775807) (w : World) : Calls Try.prog 70 #[.int .i64 kind, valV k n s] w fun e w' => e = .returned (.int .i64 (faultN kind k n s)) ∧ Below w.heap.size w w' := by
  unfold valV
  go_enter Try.func70, Try.ntmps70
  go_wp2_with (first
    | (go_at_call 69; refine (Try.within2 _ _ _ _).mono ?_; rintro e w' ⟨rfl, rfl⟩)
    | (go_at_call 89; refine (Try.plain _ hs _).mono ?_; rintro e w2 ⟨rfl, hb⟩; obtain ⟨c0, c1, c2, hz, hb'⟩ := box_kept hb; clear hb))
  all_goals (go_ret; refine ⟨congrArg (fun z => Ending.returned (.int .i64 z)) ?_, ?_⟩)
  all_goals first
    | (show _ = faultN _ _ _ _; unfold faultN; simp [*]; done)
    | (show _ = faultN _ _ _ _; unfold faultN; grind)
    | exact (Below.refl _ _).alloc (Nat.le_refl _) _
    | exact hb'
    | skip

theorem below_call {w w2 : World} {o : Obj} (h : Below (w.alloc o).heap.size (w.alloc o) w2) : Below w.heap.size w w2 := by
  have hn : (w.alloc o).heap.size = w.heap.size + 1 := by unfold World.alloc; simp
  have h1 : Below w.heap.size w (w.alloc o) := (Below.refl _ _).alloc (Nat.le_refl _) _
  exact h1.trans (h.mono (by omega))

def valueFaultN (kind k n : Int) (s : ByteArray) : Int := if inB kind 1 4 then faultN kind k n s else 4

theorem Try.valueFault (kind k n : Int) (s : ByteArray) (hs : s.size ≤ 9223372036854775807) (w : World) : Calls Try.prog 38 #[.int .i64 kind, valV k n s] w fun e w' => e = .returned (.int .i64 (valueFaultN kind k n s)) ∧ Below w.heap.size w w' := by
  unfold valV
  go_enter Try.func38, Try.ntmps38
  go_wp2_with (first
    | (go_at_call 69; refine (Try.within2 _ _ _ _).mono ?_; rintro e w' ⟨rfl, rfl⟩)
    | (go_at_call 70; refine (Try.fault _ _ _ _ hs _).mono ?_; rintro e w2 ⟨rfl, hb⟩))
  all_goals (go_ret; refine ⟨congrArg (fun z => Ending.returned (.int .i64 z)) ?_, ?_⟩)
  all_goals first
    | (show _ = valueFaultN _ _ _ _; rfl)
    | (show _ = valueFaultN _ _ _ _; unfold valueFaultN; simp [*]; done)
    | (show _ = valueFaultN _ _ _ _; unfold valueFaultN; grind)
    | (show _ = valueFaultN _ _ _ _; unfold valueFaultN inB; grind)
    | exact (Below.refl _ _).alloc (Nat.le_refl _) _
    | exact below_call hb
    | exact hb
    | skip

/-- The law's own sense: both say the same. -/
theorem check_agrees (kind k n : Int) (s : ByteArray) : checkN kind k n s = valueFaultN kind k n s := by
  have he : s.toList.isEmpty = true → printB s = true := fun h => by
    unfold printB
    rw [← ByteArray.toList_eq, List.isEmpty_iff.mp h]
    rfl
  unfold valueFaultN checkN faultN formB rangeB
  generalize s.toList.isEmpty = e at *
  generalize printB s = p at *
  generalize (s.size : Int) = z
  unfold inB
  by_cases h0 : k = 0
  · subst h0; cases e <;> cases p <;> simp_all <;> grind
  by_cases h1 : k = 1
  · subst h1; cases e <;> cases p <;> simp_all <;> grind
  by_cases h2 : k = 2
  · subst h2; cases e <;> cases p <;> simp_all <;> grind
  by_cases h3 : k = 3
  · subst h3; cases e <;> cases p <;> simp_all <;> grind
  by_cases h4 : k = 4
  · subst h4; cases e <;> cases p <;> simp_all <;> grind
  · have a1 : (decide (0 ≤ k) && decide (k ≤ 4)) = false := by
      cases hh : decide (0 ≤ k) && decide (k ≤ 4) with
      | false => rfl
      | true => simp only [Bool.and_eq_true, decide_eq_true_eq] at hh; omega
    have a2 : (decide (1 ≤ k) && decide (k ≤ 4)) = false := by
      cases hh : decide (1 ≤ k) && decide (k ≤ 4) with
      | false => rfl
      | true => simp only [Bool.and_eq_true, decide_eq_true_eq] at hh; omega
    have b0 : (k == 0) = false := by simpa using h0
    have b3 : (k == 3) = false := by simpa using h3
    simp only [a1, a2, b0, b3, Bool.false_eq_true, if_false, Bool.false_and, Bool.not_false, Bool.true_or, if_true]
    grind

end Go.Proofs
