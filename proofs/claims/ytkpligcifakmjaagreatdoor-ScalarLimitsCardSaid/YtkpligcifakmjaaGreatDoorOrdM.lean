/- Of package value: Compare; of the document's package: Compared. No condition. -/
import Derived.Test.YtkpligcifakmjaaGreatDoorVc
import Derived.StillTailTactics
import Derived.Laws.Cover1
import Derived.Deep.CutRange
import Derived.Deep.RegionWith
namespace Go.Proofs
open Go.RowKit

structure Val where
  k : Int
  n : Int
  s : ByteArray

def Val.v (x : Val) : Value := valV x.k x.n x.s
def Val.zero : Val := ⟨0, 0, ⟨#[]⟩⟩
def Val.fine (x : Val) : Bool := formB x.k x.n x.s && decide ((x.s.size : Int) ≤ 100) && rangeB x.k x.n x.s
def Val.plain (x : Val) : Val := if x.fine then x else Val.zero

/-- What a call leaves of two boxes. -/
theorem two_kept {w w' : World} {o1 o2 : Obj} (h : Below ((w.alloc o1).alloc o2).heap.size ((w.alloc o1).alloc o2) w') : w'.heap[w.heap.size]? = some o1 ∧ w'.heap[w.heap.size + 1]? = some o2 ∧ w.heap.size + 1 < w'.heap.size ∧ Below w.heap.size w w' := by
  have h1 : ((w.alloc o1).alloc o2).heap.size = w.heap.size + 2 := by unfold World.alloc; simp
  have hs := h.size
  refine ⟨?_, ?_, by omega, ?_⟩
  · rw [h.block _ (by omega)]; unfold World.alloc; simp [Array.getElem?_push]
  · rw [h.block _ (by omega)]; exact heap_alloc2_new _ _ _
  · exact (((Below.refl _ w).alloc (Nat.le_refl _) o1).alloc (by unfold World.alloc; simp) o2).trans (h.mono (by omega))

set_option maxRecDepth 20000 in
theorem Tryz.right (k n : Int) (s : ByteArray) (hs : s.size ≤ 9223372036854775807) (w : World) : Calls Tryz.prog 108 #[valV k n s] w fun e w' => e = .returned (.bool (Val.fine ⟨k, n, s⟩)) ∧ Below w.heap.size w w' := by
  unfold valV
  go_enter Tryz.func108, Tryz.ntmps108
  go_wp2_with (first
    | (go_at_call 49; refine (Tryz.form _ _ _ _).mono ?_; rintro e w' ⟨rfl, hb⟩; obtain ⟨c0, c1, c2, hz, hb'⟩ := box_kept hb; clear hb)
    | (go_at_call 50; refine (Tryz.inRange _ _ _ hs _).mono ?_; rintro e w2 ⟨rfl, hb2⟩))
  all_goals (go_ret; refine ⟨congrArg (fun z => Ending.returned (.bool z)) ?_, ?_⟩)
  all_goals first
    | (show _ = Val.fine _; unfold Val.fine; simp [*]; done)
    | (show _ = Val.fine _; unfold Val.fine; grind)
    | exact hb'
    | exact hb'.trans (hb2.mono (by omega))
    | skip

set_option maxRecDepth 20000 in
theorem Tryz.plainV (k n : Int) (s : ByteArray) (hs : s.size ≤ 9223372036854775807) (w : World) : Calls Tryz.prog 69 #[valV k n s] w fun e w' => e = .returned (Val.plain ⟨k, n, s⟩).v ∧ Below w.heap.size w w' := by
  unfold valV
  go_enter Tryz.func69, Tryz.ntmps69
  go_wp2_with (first
    | (go_at_call 108; refine (Tryz.right _ _ _ hs _).mono ?_; rintro e w' ⟨rfl, hb⟩; obtain ⟨b1, b2, hz, hb'⟩ := two_kept hb; clear hb; have c0 : w'.cell? ⟨w.heap.size, 0, none⟩ = some (.int .i64 k) := (by simp [World.cell?, b1]); have c1 : w'.cell? ⟨w.heap.size, 1, none⟩ = some (.int .i64 n) := (by simp [World.cell?, b1]); have c2 : w'.cell? ⟨w.heap.size, 2, none⟩ = some (.string s) := (by simp [World.cell?, b1]); have d0 : w'.cell? ⟨w.heap.size + 1, 0, none⟩ = some (.int .i64 0) := (by simp [World.cell?, b2]); have d1 : w'.cell? ⟨w.heap.size + 1, 1, none⟩ = some (.int .i64 0) := (by simp [World.cell?, b2]); have d2 : w'.cell? ⟨w.heap.size + 1, 2, none⟩ = some (.string ⟨#[]⟩) := (by simp [World.cell?, b2]); have f0 : w'.frozen? ⟨w.heap.size + 1, 0, none⟩ = false := (by simp [World.frozen?, b2]); have f1 : w'.frozen? ⟨w.heap.size + 1, 1, none⟩ = false := (by simp [World.frozen?, b2]); have f2 : w'.frozen? ⟨w.heap.size + 1, 2, none⟩ = false := (by simp [World.frozen?, b2])))
  · refine bodyPost_ret (v := valV k n s) (by simp [results, Tryz.results69, go_sem, valV, *]) rfl ⟨?_, ?_⟩
    · rename_i hf
      simp [Val.plain, hf, Val.v]
    · refine Below.setCell (Below.setCell (Below.setCell hb' ?_ _) ?_ _) ?_ _ <;> exact Nat.le_succ _
  · refine bodyPost_ret (v := valV 0 0 ⟨#[]⟩) (by simp [results, Tryz.results69, go_sem, valV, *]) rfl ⟨?_, ?_⟩
    · rename_i hf
      simp [Val.plain, hf, Val.v, Val.zero]
    · refine Below.setCell (Below.setCell (Below.setCell hb' ?_ _) ?_ _) ?_ _ <;> exact Nat.le_succ _

theorem Tryz.isNaN (n : Int) (w : World) : Calls Tryz.prog 110 #[.int .i64 n] w fun e w' => e = .returned (.bool false) ∧ w' = w := by
  go_enter Tryz.func110, Tryz.ntmps110
  go_wp2
  go_ret
  simp

theorem Tryz.isNaNs (s : ByteArray) (w : World) : Calls Tryz.prog 150 #[.string s] w fun e w' => e = .returned (.bool false) ∧ w' = w := by
  go_enter Tryz.func150, Tryz.ntmps150
  go_wp2
  go_ret
  simp

def cmpI (a b : Int) : Int := if a < b then -1 else if b < a then 1 else 0
def cmpS (a b : ByteArray) : Int := Lib.compareBytes a.data.toList b.data.toList

theorem Tryz.cmpInt (a b : Int) (w : World) : Calls Tryz.prog 72 #[.int .i64 a, .int .i64 b] w fun e w' => e = .returned (.int .i64 (cmpI a b)) ∧ w' = w := by
  go_enter Tryz.func72, Tryz.ntmps72
  go_wp2_with (go_at_call 110; refine (Tryz.isNaN _ _).mono ?_; rintro e w' ⟨rfl, rfl⟩)
  all_goals go_ret
  all_goals refine ⟨congrArg (fun z => Ending.returned (.int .i64 z)) ?_, rfl⟩
  all_goals (show _ = cmpI _ _; unfold cmpI; grind)

theorem less_cmp : ∀ a b : List UInt8, Lib.compareBytes a b = if Op.bytesLess a b then -1 else if a == b then 0 else 1
  | [], [] => rfl
  | [], _ :: _ => rfl
  | _ :: _, [] => by simp [Lib.compareBytes, Op.bytesLess]
  | x :: a, y :: b => by
    unfold Lib.compareBytes Op.bytesLess
    rw [less_cmp a b]
    by_cases hxy : x = y
    · subst hxy
      simp
    · by_cases hlt : x < y
      · simp [hlt]
      · have : y < x := UInt8.lt_of_le_of_ne (UInt8.not_lt.1 hlt) (Ne.symm hxy)
        simp [hlt, this, hxy]

theorem cmpS_less (a b : ByteArray) : cmpS a b = if Op.bytesLess a.toList b.toList then -1 else if a.toList == b.toList then 0 else 1 := by
  rw [ByteArray.toList_eq, ByteArray.toList_eq]
  exact less_cmp _ _

theorem Tryz.cmpStr (a b : ByteArray) (w : World) : Calls Tryz.prog 107 #[.string a, .string b] w fun e w' => e = .returned (.int .i64 (cmpS a b)) ∧ w' = w := by
  go_enter Tryz.func107, Tryz.ntmps107
  go_wp2_with (go_at_call 150; refine (Tryz.isNaNs _ _).mono ?_; rintro e w' ⟨rfl, rfl⟩)
  all_goals go_ret
  all_goals refine ⟨congrArg (fun z => Ending.returned (.int .i64 z)) ?_, rfl⟩
  all_goals (show _ = cmpS _ _; rw [cmpS_less]; simp_all)

theorem Tryz.sign (n : Int) (w : World) : Calls Tryz.prog 70 #[.int .i64 n] w fun e w' => e = .returned (.int .i64 (max (-1) (min n 1))) ∧ w' = w := by
  go_enter Tryz.func70, Tryz.ntmps70
  go_wp2
  go_ret
  exact ⟨rfl, rfl⟩

def orN (x y z : Int) : Int := if x ≠ 0 then x else if y ≠ 0 then y else z

theorem Tryz.orInt (b : Nat) (x y z : Int) (w : World) (h0 : w.cell? ⟨b, 0, none⟩ = some (.int .i64 x)) (h1 : w.cell? ⟨b, 1, none⟩ = some (.int .i64 y)) (h2 : w.cell? ⟨b, 2, none⟩ = some (.int .i64 z)) :
    Calls Tryz.prog 106 #[.slice (some ⟨b, 0, none⟩) 3 3] w fun e w' => e = .returned (.int .i64 (orN x y z)) ∧ w' = w := by
  unfold orN
  by_cases hx : x = 0
  · subst hx
    by_cases hy : y = 0
    · subst hy
      by_cases hz : z = 0
      · subst hz
        go_enter Tryz.func106, Tryz.ntmps106
        go_wp2
        refine wp_loop_rounds 4 ?_
        rw [rounds_succ]; go_wp2
        rw [rounds_succ]; go_wp2
        rw [rounds_succ]; go_wp2
        rw [rounds_succ]; go_wp2
        go_ret
        exact ⟨by simp, rfl⟩
      · have hz' : (z != 0) = true := by simpa using hz
        go_enter Tryz.func106, Tryz.ntmps106
        go_wp2
        refine wp_loop_rounds 4 ?_
        rw [rounds_succ]; go_wp2
        rw [rounds_succ]; go_wp2
        rw [rounds_succ]; go_wp2
        go_ret
        exact ⟨by simp, rfl⟩
    · have hy' : (y != 0) = true := by simpa using hy
      go_enter Tryz.func106, Tryz.ntmps106
      go_wp2
      refine wp_loop_rounds 4 ?_
      rw [rounds_succ]; go_wp2
      rw [rounds_succ]; go_wp2
      go_ret
      exact ⟨by simp [*], rfl⟩
  · have hx' : (x != 0) = true := by simpa using hx
    go_enter Tryz.func106, Tryz.ntmps106
    go_wp2
    refine wp_loop_rounds 4 ?_
    rw [rounds_succ]; go_wp2
    go_ret
    exact ⟨by simp [*], rfl⟩

theorem new_cell (W : World) (xs : Array Value) (t : TypeId) (i : Nat) : (W.alloc (.cells xs t)).drew.cell? ⟨W.heap.size, i, none⟩ = xs[i]? := by
  show (W.alloc _).cell? _ = _
  unfold World.cell?
  rw [heap_alloc_new]
  rfl

def orderN (a b : Val) : Int := orN (cmpI a.k b.k) (cmpI a.n b.n) (cmpS a.s b.s)

set_option maxRecDepth 20000 in
theorem Tryz.order (a b : Val) (w : World) : Calls Tryz.prog 68 #[a.v, b.v] w fun e w' => e = .returned (.int .i64 (orderN a b)) ∧ Below w.heap.size w w' := by
  unfold Val.v valV
  go_enter Tryz.func68, Tryz.ntmps68
  go_wp2_with fail
  have key := two_kept (Below.refl _ ((w.alloc (.cells #[.int .i64 a.k, .int .i64 a.n, .string a.s] 23)).alloc (.cells #[.int .i64 b.k, .int .i64 b.n, .string b.s] 23)))
  generalize (w.alloc (.cells #[.int .i64 a.k, .int .i64 a.n, .string a.s] 23)).alloc (.cells #[.int .i64 b.k, .int .i64 b.n, .string b.s] 23) = W at key ⊢
  obtain ⟨b1, b2, hz, hb⟩ := key
  have c0 : W.drew.cell? ⟨w.heap.size, 0, none⟩ = some (.int .i64 a.k) := by show W.cell? _ = _; simp [World.cell?, b1]
  have c1 : W.drew.cell? ⟨w.heap.size, 1, none⟩ = some (.int .i64 a.n) := by show W.cell? _ = _; simp [World.cell?, b1]
  have c2 : W.drew.cell? ⟨w.heap.size, 2, none⟩ = some (.string a.s) := by show W.cell? _ = _; simp [World.cell?, b1]
  have d0 : W.drew.cell? ⟨w.heap.size + 1, 0, none⟩ = some (.int .i64 b.k) := by show W.cell? _ = _; simp [World.cell?, b2]
  have d1 : W.drew.cell? ⟨w.heap.size + 1, 1, none⟩ = some (.int .i64 b.n) := by show W.cell? _ = _; simp [World.cell?, b2]
  have d2 : W.drew.cell? ⟨w.heap.size + 1, 2, none⟩ = some (.string b.s) := by show W.cell? _ = _; simp [World.cell?, b2]
  clear b1 b2
  refine wp_region_still_tail 15 tryz_mixed (by kernel_rfl) ?_
  change wpStill _ _ W.drew _ _ _
  generalize W.drew = W1 at *
  simp only [List.take_succ_cons, List.take_zero, List.drop_succ_cons, List.drop_zero]
  still_step
  still_step
  still_step
  still_step
  still_call (Tryz.cmpInt _ _ _)
  still_step
  still_step
  still_step
  still_step
  still_call (Tryz.cmpInt _ _ _)
  still_step
  still_step
  still_step
  still_step
  still_call (Tryz.cmpStr _ _ _)
  refine wpStill_nil ?_
  change wpList _ _ _ _ _ _
  go_wp2_with (go_at_call 106; refine (Tryz.orInt _ _ _ _ _ (by rw [new_cell]; rfl) (by rw [new_cell]; rfl) (by rw [new_cell]; rfl)).mono ?_; rintro e w' ⟨rfl, rfl⟩)
  go_ret
  exact ⟨rfl, (hb.alloc (by omega) _).drew⟩

theorem Tryz.anyFault (k n : Int) (s : ByteArray) (hs : s.size ≤ 9223372036854775807) (w : World) : Calls Tryz.prog 76 #[valV k n s] w fun e w' => e = .returned (.int .i64 (faultN 0 k n s)) ∧ Below w.heap.size w w' := by
  unfold valV
  go_enter Tryz.func76, Tryz.ntmps76
  go_wp2_with (first
    | (go_at_call 102; refine (Tryz.fault _ _ _ _ hs _).mono ?_; rintro e w2 ⟨rfl, hb⟩))
  go_ret
  exact ⟨rfl, below_call hb⟩

/-- Both packages call the same values right. -/
theorem fine_fault (k n : Int) (s : ByteArray) : (faultN 0 k n s != 0) = !Val.fine ⟨k, n, s⟩ := by
  have he : s.toList.isEmpty = true → printB s = true := fun h => by
    unfold printB
    rw [← ByteArray.toList_eq, List.isEmpty_iff.mp h]
    rfl
  have hz : s.toList.isEmpty = true → (s.size : Int) = 0 := fun h => by
    have h1 : s.data.toList.length = 0 := by rw [← ByteArray.toList_eq, List.isEmpty_iff.mp h]; rfl
    have h2 : s.data.toList.length = s.size := Array.length_toList
    omega
  unfold faultN Val.fine formB rangeB
  dsimp only
  generalize s.toList.isEmpty = e at *
  generalize printB s = p at *
  generalize (s.size : Int) = z at *
  unfold inB
  by_cases h0 : k = 0
  · subst h0; cases e <;> cases p <;> simp_all <;> grind
  by_cases h1 : k = 1
  · subst h1; cases e <;> cases p <;> simp_all <;> grind
  by_cases h2 : k = 2
  · subst h2; cases e <;> cases p <;> simp_all <;> grind
  by_cases h3 : k = 3
  · subst h3; cases e <;> cases p <;> simp_all <;> grind
  by_cases h4 : k = 4
  · subst h4; cases e <;> cases p <;> simp_all <;> grind
  · have a1 : (decide (0 ≤ k) && decide (k ≤ 4)) = false := by
      cases hh : decide (0 ≤ k) && decide (k ≤ 4) with
      | false => rfl
      | true => simp only [Bool.and_eq_true, decide_eq_true_eq] at hh; omega
    have a2 : (decide (1 ≤ k) && decide (k ≤ 4)) = false := by
      cases hh : decide (1 ≤ k) && decide (k ≤ 4) with
      | false => rfl
      | true => simp only [Bool.and_eq_true, decide_eq_true_eq] at hh; omega
    have b0 : (k == 0) = false := by simpa using h0
    have b3 : (k == 3) = false := by simpa using h3
    simp only [a1, a2, b0, b3, Bool.false_eq_true, if_false, Bool.false_and, Bool.not_false, Bool.true_or, if_true]
    grind

set_option maxRecDepth 20000 in
theorem Tryz.plainR (k n : Int) (s : ByteArray) (hs : s.size ≤ 9223372036854775807) (w : World) : Calls Tryz.prog 56 #[valV k n s] w fun e w' => e = .returned (Val.plain ⟨k, n, s⟩).v ∧ Below w.heap.size w w' := by
  have hff := fine_fault k n s
  unfold valV
  go_enter Tryz.func56, Tryz.ntmps56
  go_wp2_with (first
    | (go_at_call 76; refine (Tryz.anyFault _ _ _ hs _).mono ?_; rintro e w' ⟨rfl, hb⟩; obtain ⟨b1, b2, hz, hb'⟩ := two_kept hb; clear hb; have c0 : w'.cell? ⟨w.heap.size, 0, none⟩ = some (.int .i64 k) := (by simp [World.cell?, b1]); have c1 : w'.cell? ⟨w.heap.size, 1, none⟩ = some (.int .i64 n) := (by simp [World.cell?, b1]); have c2 : w'.cell? ⟨w.heap.size, 2, none⟩ = some (.string s) := (by simp [World.cell?, b1]); have d0 : w'.cell? ⟨w.heap.size + 1, 0, none⟩ = some (.int .i64 0) := (by simp [World.cell?, b2]); have d1 : w'.cell? ⟨w.heap.size + 1, 1, none⟩ = some (.int .i64 0) := (by simp [World.cell?, b2]); have d2 : w'.cell? ⟨w.heap.size + 1, 2, none⟩ = some (.string ⟨#[]⟩) := (by simp [World.cell?, b2]); have f0 : w'.frozen? ⟨w.heap.size + 1, 0, none⟩ = false := (by simp [World.frozen?, b2]); have f1 : w'.frozen? ⟨w.heap.size + 1, 1, none⟩ = false := (by simp [World.frozen?, b2]); have f2 : w'.frozen? ⟨w.heap.size + 1, 2, none⟩ = false := (by simp [World.frozen?, b2])))
  all_goals rename_i hf
  · have hfin : Val.fine ⟨k, n, s⟩ = false := by simpa [hff] using hf
    refine bodyPost_ret (v := valV 0 0 ⟨#[]⟩) (by simp [results, Tryz.results56, go_sem, valV, *]) rfl ⟨?_, ?_⟩
    · simp [Val.plain, hfin, Val.v, Val.zero]
    · refine Below.setCell (Below.setCell (Below.setCell hb' ?_ _) ?_ _) ?_ _ <;> exact Nat.le_succ _
  · have hfin : Val.fine ⟨k, n, s⟩ = true := by simpa [hff] using hf
    refine bodyPost_ret (v := valV k n s) (by simp [results, Tryz.results56, go_sem, valV, *]) rfl ⟨?_, ?_⟩
    · simp [Val.plain, hfin, Val.v]
    · refine Below.setCell (Below.setCell (Below.setCell hb' ?_ _) ?_ _) ?_ _ <;> exact Nat.le_succ _

end Go.Proofs

namespace Go.Proofs
open Go.RowKit

def TwoIn (w W : World) (a b : Val) : Prop :=
  W.heap[w.heap.size]? = some (.cells #[.int .i64 a.k, .int .i64 a.n, .string a.s] 23) ∧ W.heap[w.heap.size + 1]? = some (.cells #[.int .i64 b.k, .int .i64 b.n, .string b.s] 23) ∧ Below w.heap.size w W ∧ w.heap.size + 1 < W.heap.size

theorem TwoIn.next {w W W' : World} {a b : Val} (h : TwoIn w W a b) (hb : Below W.heap.size W W') : TwoIn w W' a b := by
  obtain ⟨h1, h2, h3, h4⟩ := h
  have := hb.size
  exact ⟨(hb.block _ (by omega)).trans h1, (hb.block _ h4).trans h2, h3.trans (hb.mono (by omega)), by omega⟩

theorem TwoIn.cells {w W : World} {a b : Val} (h : TwoIn w W a b) :
    (W.cell? ⟨w.heap.size, 0, none⟩ = some (.int .i64 a.k) ∧ W.cell? ⟨w.heap.size, 1, none⟩ = some (.int .i64 a.n) ∧ W.cell? ⟨w.heap.size, 2, none⟩ = some (.string a.s)) ∧
    (W.cell? ⟨w.heap.size + 1, 0, none⟩ = some (.int .i64 b.k) ∧ W.cell? ⟨w.heap.size + 1, 1, none⟩ = some (.int .i64 b.n) ∧ W.cell? ⟨w.heap.size + 1, 2, none⟩ = some (.string b.s)) ∧
    (W.frozen? ⟨w.heap.size, 0, none⟩ = false ∧ W.frozen? ⟨w.heap.size, 1, none⟩ = false ∧ W.frozen? ⟨w.heap.size, 2, none⟩ = false) ∧
    (W.frozen? ⟨w.heap.size + 1, 0, none⟩ = false ∧ W.frozen? ⟨w.heap.size + 1, 1, none⟩ = false ∧ W.frozen? ⟨w.heap.size + 1, 2, none⟩ = false) := by
  obtain ⟨h1, h2, h3, h4⟩ := h
  refine ⟨⟨?_, ?_, ?_⟩, ⟨?_, ?_, ?_⟩, ⟨?_, ?_, ?_⟩, ⟨?_, ?_, ?_⟩⟩ <;> simp [World.cell?, World.frozen?, h1, h2]

theorem TwoIn.drew {w W : World} {a b : Val} (h : TwoIn w W a b) : TwoIn w W.drew a b := ⟨h.1, h.2.1, h.2.2.1.drew, h.2.2.2⟩

theorem TwoIn.start (w : World) (a b : Val) : TwoIn w ((w.alloc (.cells #[.int .i64 a.k, .int .i64 a.n, .string a.s] 23)).alloc (.cells #[.int .i64 b.k, .int .i64 b.n, .string b.s] 23)) a b := by
  obtain ⟨h1, h2, h3, h4⟩ := two_kept (Below.refl _ ((w.alloc (.cells #[.int .i64 a.k, .int .i64 a.n, .string a.s] 23)).alloc (.cells #[.int .i64 b.k, .int .i64 b.n, .string b.s] 23)))
  exact ⟨h1, h2, h4, h3⟩

theorem block_set {W : World} {g i : Nat} {v : Value} {cs : Array Value} {t : TypeId} {fr : Nat × Nat} (h : W.heap[g]? = some (.cells cs t fr)) : (W.setCell ⟨g, i, none⟩ v).heap[g]? = some (.cells (cs.setIfInBounds i v) t fr) := by
  simp [World.setCell, Array.getElem?_modify, h]

theorem block_set_ne {W : World} {g g' i : Nat} {v : Value} (h : g ≠ g') : (W.setCell ⟨g, i, none⟩ v).heap[g']? = W.heap[g']? := by
  simp [World.setCell, Array.getElem?_modify, h]

theorem size_set {W : World} {a : Addr} {v : Value} : (W.setCell a v).heap.size = W.heap.size := by
  simp [World.setCell]

theorem TwoIn.stored {w W : World} {a b : Val} (x y : Val) (h : TwoIn w W a b) :
    TwoIn w ((((((W.setCell ⟨w.heap.size, 0, none⟩ (.int .i64 x.k)).setCell ⟨w.heap.size, 1, none⟩ (.int .i64 x.n)).setCell ⟨w.heap.size, 2, none⟩ (.string x.s)).setCell ⟨w.heap.size + 1, 0, none⟩ (.int .i64 y.k)).setCell ⟨w.heap.size + 1, 1, none⟩ (.int .i64 y.n)).setCell ⟨w.heap.size + 1, 2, none⟩ (.string y.s)) x y := by
  obtain ⟨h1, h2, h3, h4⟩ := h
  refine ⟨?_, ?_, ?_, by simp only [size_set]; exact h4⟩
  · rw [block_set_ne (by omega), block_set_ne (by omega), block_set_ne (by omega), block_set (block_set (block_set h1))]
    rfl
  · rw [block_set (block_set (block_set (g := w.heap.size + 1) (cs := #[.int .i64 b.k, .int .i64 b.n, .string b.s]) (t := 23) (fr := (0, 0)) ?_))]
    · rfl
    · rw [block_set_ne (by omega), block_set_ne (by omega), block_set_ne (by omega), h2]
  · refine Below.setCell (Below.setCell (Below.setCell (Below.setCell (Below.setCell (Below.setCell h3 ?_ _) ?_ _) ?_ _) ?_ _) ?_ _) ?_ _ <;> first | exact Nat.le_refl _ | exact Nat.le_succ _

def comparedN (a b : Val) : Int := if max (-1) (min (a.k - b.k) 1) ≠ 0 then max (-1) (min (a.k - b.k) 1) else if a.k = 3 then cmpS a.s b.s else max (-1) (min (a.n - b.n) 1)

theorem plain_bounds (x : Val) : (0 ≤ x.plain.k ∧ x.plain.k ≤ 4) ∧ (-999999999999999 ≤ x.plain.n ∧ x.plain.n ≤ 999999999999999) ∧ (x.plain.k = 3 → x.plain.n = 0) ∧ (x.plain.k ≠ 3 → x.plain.s.toList.isEmpty = true) ∧ x.plain.s.size ≤ 100 := by
  unfold Val.plain
  cases h : x.fine with
  | false => simp [Val.zero]; decide
  | true =>
    obtain ⟨k, n, s⟩ := x
    simp only [if_true]
    unfold Val.fine formB rangeB inB at h
    simp only [Bool.and_eq_true, decide_eq_true_eq] at h
    obtain ⟨⟨h1, h2⟩, h3⟩ := h
    have h2 : s.size ≤ 100 := by omega
    by_cases h0 : k = 0
    · subst h0; simp_all
    by_cases h3 : k = 3
    · subst h3; simp_all
    by_cases h4 : k = 1
    · subst h4; simp_all; omega
    by_cases h5 : k = 2
    · subst h5; simp_all
    by_cases h6 : k = 4
    · subst h6; simp_all; omega
    · simp_all; omega

theorem compared_order (x y : Val) : comparedN x.plain y.plain = orderN x.plain y.plain := by
  obtain ⟨⟨a1, a2⟩, ⟨a3, a4⟩, a5, a6, _⟩ := plain_bounds x
  obtain ⟨⟨b1, b2⟩, ⟨b3, b4⟩, b5, b6, _⟩ := plain_bounds y
  generalize x.plain = a at *
  generalize y.plain = b at *
  have hs : a.k ≠ 3 → a.k = b.k → cmpS a.s b.s = 0 := fun h3 hk => by
    have e1 := List.isEmpty_iff.mp (a6 h3)
    have e2 := List.isEmpty_iff.mp (b6 (by omega))
    rw [cmpS_less, e1, e2]
    rfl
  unfold comparedN orderN orN cmpI
  by_cases hk : a.k = b.k
  · by_cases h3 : a.k = 3
    · have e1 := a5 h3
      have e2 := b5 (by omega)
      have e3 : max (-1) (min (a.k - b.k) 1) = 0 := by omega
      rw [e3, e1, e2, if_pos h3, hk]
      simp
    · have := hs h3 hk
      simp_all
      grind
  · grind

set_option maxRecDepth 20000 in
set_option maxHeartbeats 1000000 in
theorem Tryz.compared (a b : Val) (ha : a.s.size ≤ 9223372036854775807) (hb : b.s.size ≤ 9223372036854775807) (w : World) : Calls Tryz.prog 24 #[a.v, b.v] w fun e w' => e = .returned (.int .i64 (orderN a.plain b.plain)) ∧ Below w.heap.size w w' := by
  rw [← compared_order]
  obtain ⟨⟨a1, a2⟩, ⟨a3, a4⟩, _, _, _⟩ := plain_bounds a
  obtain ⟨⟨b1, b2⟩, ⟨b3, b4⟩, _, _, _⟩ := plain_bounds b
  unfold Val.v valV
  go_enter Tryz.func24, Tryz.ntmps24
  go_upto_region 1 with fail
  have hT := TwoIn.start w a b
  generalize (w.alloc (.cells #[.int .i64 a.k, .int .i64 a.n, .string a.s] 23)).alloc (.cells #[.int .i64 b.k, .int .i64 b.n, .string b.s] 23) = W at hT ⊢
  go_cut [] from 6 to 9 (fun wx => TwoIn w wx a.plain b.plain)
  case first =>
    have hT := hT.drew
    obtain ⟨⟨c0, c1, c2⟩, ⟨d0, d1, d2⟩, ⟨f0, f1, f2⟩, g0, g1, g2⟩ := hT.cells
    go_region_with (first
      | (go_at_call_of 56 (Value.agg #[.int .i64 a.k, .int .i64 a.n, .string a.s]); refine (Tryz.plainR a.k a.n a.s ha _).mono ?_; rintro e w2 ⟨rfl, hb2⟩; simp only [Val.v, valV]; have hT2 := TwoIn.next (a := a) (b := b) (by assumption) hb2; obtain ⟨⟨c0, c1, c2⟩, ⟨d0, d1, d2⟩, ⟨f0, f1, f2⟩, g0, g1, g2⟩ := hT2.cells)
      | (go_at_call_of 56 (Value.agg #[.int .i64 b.k, .int .i64 b.n, .string b.s]); refine (Tryz.plainR b.k b.n b.s hb _).mono ?_; rintro e w2 ⟨rfl, hb2⟩; simp only [Val.v, valV]; have hT2 := TwoIn.next (a := a) (b := b) (by assumption) hb2; obtain ⟨⟨c0, c1, c2⟩, ⟨d0, d1, d2⟩, ⟨f0, f1, f2⟩, g0, g1, g2⟩ := hT2.cells))
    all_goals (go_wp2_with fail; go_meet)
    all_goals exact TwoIn.stored a.plain b.plain (a := a) (b := b) (by assumption)
  case rest =>
    obtain ⟨⟨c0, c1, c2⟩, ⟨d0, d1, d2⟩, ⟨f0, f1, f2⟩, g0, g1, g2⟩ := hcut.cells
    go_wp2_with (first
      | (go_at_call 70; refine (Tryz.sign _ _).mono ?_; rintro e w2 ⟨rfl, rfl⟩)
      | (go_at_call 71; refine (Tryz.strings_Compare _ _ _).mono ?_; rintro e w2 ⟨rfl, rfl⟩))
    all_goals go_ret
    all_goals refine ⟨congrArg (fun z => Ending.returned (.int .i64 z)) ?_, hcut.2.2.1⟩
    all_goals (show _ = comparedN _ _; unfold comparedN cmpS; simp_all)
end Go.Proofs
