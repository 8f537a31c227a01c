/- Of package value: the small functions, each by what it answers; what is right. No condition. -/
import Derived.Test.YtmnlcldhhlkpeaaGreatDoorProg
import Derived.WalkKit
import Derived.Lib.ConvBytes
import Derived.Lib.SmallJoins
import Derived.Lib.Hide
import Derived.Deep.RegionHeld3
import Derived.StillTailTactics
import Derived.Laws.Cover1
import Derived.Deep.CutRange
import Derived.Deep.RegionWith
import Derived.RowKit
namespace Go.Proofs
open Go.RowKit

def inB (n low high : Int) : Bool := decide (low ≤ n) && decide (n ≤ high)

def valV (k n : Int) (s : ByteArray) : Value := .agg #[.int .i64 k, .int .i64 n, .string s]

def formB (k n : Int) (s : ByteArray) : Bool := if k == 0 then (n == 0) && s.toList.isEmpty else if k == 3 then n == 0 else inB k 1 4 && s.toList.isEmpty

theorem Tryz.within (n low high : Int) (w : World) : Calls Tryz.prog 48 #[.int .i64 n, .int .i64 low, .int .i64 high] w fun e w' => e = .returned (.bool (inB n low high)) ∧ w' = w := by
  go_enter Tryz.func48, Tryz.ntmps48
  go_wp2
  all_goals go_ret
  all_goals refine ⟨congrArg (fun b => Ending.returned (.bool b)) ?_, rfl⟩
  all_goals simp only [inB]
  · rename_i h; simp [h]
  · rename_i h; simp [show ¬ low ≤ n by omega]

theorem Tryz.form (k n : Int) (s : ByteArray) (w : World) : Calls Tryz.prog 88 #[valV k n s] w fun e w' => e = .returned (.bool (formB k n s)) ∧ Below w.heap.size w w' := by
  unfold valV
  go_enter Tryz.func88, Tryz.ntmps88
  go_wp2_with (first
    | (go_at_call 48; refine (Tryz.within _ _ _ _).mono ?_; rintro e w' ⟨rfl, rfl⟩))
  all_goals (try go_ret)
  all_goals refine ⟨congrArg (fun b => Ending.returned (.bool b)) ?_, by first | exact Below.refl _ _ | exact (Below.refl _ _).alloc (Nat.le_refl _) _⟩
  all_goals (show _ = formB _ _ _)
  all_goals (unfold formB; try simp [*])

def printC (b : UInt8) : Bool := decide (32 ≤ (b.toNat : Int)) && decide ((b.toNat : Int) ≤ 126)

def printB (s : ByteArray) : Bool := s.data.toList.all printC

theorem printB_no {s : ByteArray} {j : Nat} (h : j < s.size) (hc : printC s[j] = false) : printB s = false := by
  unfold printB
  rw [List.all_eq_false]
  exact ⟨s[j], Array.mem_toList_iff.mpr (Array.getElem_mem (xs := s.data) h), by simp [hc]⟩

theorem printB_yes {s : ByteArray} {j : Nat} (h : ¬ j < s.size) (hc : (s.data.toList.take j).all printC = true) : printB s = true := by
  unfold printB
  rwa [List.take_of_length_le (by simp only [Array.length_toList]; have : s.data.size = s.size := rfl; omega)] at hc

/-- The first k bytes are printable. -/
def okTo (s : ByteArray) (k : Nat) : Prop := (s.data.toList.take k).all printC = true

theorem okTo_zero (s : ByteArray) : okTo s 0 := rfl

theorem okTo_succ {s : ByteArray} {j : Nat} (h : okTo s j) (hlt : j < s.size) (h1 : 32 ≤ (s[j].toNat : Int)) (h2 : (s[j].toNat : Int) ≤ 126) : okTo s (j + 1) := by
  unfold okTo at *
  have : s.data.toList.take (j + 1) = s.data.toList.take j ++ [s[j]] := by rw [List.take_succ_eq_append_getElem (by simpa using hlt)]; rfl
  rw [this, List.all_append, h]
  simp only [List.all_cons, List.all_nil, printC, Bool.and_true, Bool.true_and, Bool.and_eq_true, decide_eq_true_eq]
  exact ⟨h1, h2⟩

def rangeB (k n : Int) (s : ByteArray) : Bool := if k == 1 then inB n 0 1 else if k == 2 then inB n (-999999999999999) 999999999999999 else if k == 4 then inB n 0 253402300799 else printB s

theorem Tryz.inRange (k n : Int) (s : ByteArray) (hs : s.size ≤ 9223372036854775807) (w : World) : Calls Tryz.prog 89 #[valV k n s] w fun e w' => e = .returned (.bool (rangeB k n s)) ∧ Below w.heap.size w w' := by
  unfold valV
  go_enter Tryz.func89, Tryz.ntmps89
  go_wp2_with (first
    | (go_at_call 48; refine (Tryz.within _ _ _ _).mono ?_; rintro e w' ⟨rfl, rfl⟩))
  case _ | _ | _ =>
    go_ret
    refine ⟨congrArg (fun b => Ending.returned (.bool b)) ?_, by first | exact Below.refl _ _ | exact (Below.refl _ _).alloc (Nat.le_refl _) _⟩
    show _ = rangeB _ _ _
    unfold rangeB
    simp [*]
  go_loop [24] (fun i => ∃ k : Nat, k ≤ s.size ∧ i = .int .i64 k ∧ okTo s k) (fun i => s.size - (intOf i).toNat)
  case atStart => exact ⟨0, Nat.zero_le _, rfl, okTo_zero s⟩
  case round =>
    obtain ⟨j, hj, rfl, HS⟩ := hrel
    by_cases hlt : j < s.size
    · go_wp2
      · go_ret
        refine ⟨congrArg (fun b => Ending.returned (.bool b)) ?_, by first | exact Below.refl _ _ | exact (Below.refl _ _).alloc (Nat.le_refl _) _⟩
        show _ = rangeB _ _ _
        unfold rangeB
        simp only [*, Bool.false_eq_true, if_false]
        exact (printB_no hlt (by unfold printC; simp only [Bool.and_eq_false_iff, decide_eq_false_iff_not]; omega)).symm
      · go_round
        case rel => exact ⟨_, _, _, ⟨j + 1, by omega, rfl, okTo_succ HS hlt (by omega) (by omega)⟩, rfl, rfl, by go_num⟩
        case measure => simp [intOf]; omega
      · go_ret
        refine ⟨congrArg (fun b => Ending.returned (.bool b)) ?_, by first | exact Below.refl _ _ | exact (Below.refl _ _).alloc (Nat.le_refl _) _⟩
        show _ = rangeB _ _ _
        unfold rangeB
        simp only [*, Bool.false_eq_true, if_false]
        exact (printB_no hlt (by unfold printC; simp only [Bool.and_eq_false_iff, decide_eq_false_iff_not]; omega)).symm
    · go_wp2
      go_ret
      refine ⟨congrArg (fun b => Ending.returned (.bool b)) ?_, by first | exact Below.refl _ _ | exact (Below.refl _ _).alloc (Nat.le_refl _) _⟩
      show _ = rangeB _ _ _
      unfold rangeB
      simp only [*, Bool.false_eq_true, if_false]
      exact (printB_yes hlt HS).symm

/-- What a call leaves of the box of a value. -/
theorem box_kept {w w' : World} {a b c : Value} {t : TypeId} (h : Below (w.alloc (.cells #[a, b, c] t)).heap.size (w.alloc (.cells #[a, b, c] t)) w') :
    w'.cell? ⟨w.heap.size, 0, none⟩ = some a ∧ w'.cell? ⟨w.heap.size, 1, none⟩ = some b ∧ w'.cell? ⟨w.heap.size, 2, none⟩ = some c ∧ w.heap.size < w'.heap.size ∧ Below w.heap.size w w' := by
  have hn : (w.alloc (.cells #[a, b, c] t)).heap.size = w.heap.size + 1 := by unfold World.alloc; simp
  have hb : w'.heap[w.heap.size]? = some (.cells #[a, b, c] t) := by
    rw [h.block _ (by omega)]
    unfold World.alloc
    simp
  have hs := h.size
  refine ⟨by simp [World.cell?, hb], by simp [World.cell?, hb], by simp [World.cell?, hb], by omega, ?_⟩
  have h1 : Below w.heap.size w (w.alloc (.cells #[a, b, c] t)) := (Below.refl _ _).alloc (Nat.le_refl _) _
  exact h1.trans (h.mono (by omega))

theorem below_call {w w2 : World} {o : Obj} (h : Below (w.alloc o).heap.size (w.alloc o) w2) : Below w.heap.size w w2 := by
  have hn : (w.alloc o).heap.size = w.heap.size + 1 := by unfold World.alloc; simp
  have h1 : Below w.heap.size w (w.alloc o) := (Below.refl _ _).alloc (Nat.le_refl _) _
  exact h1.trans (h.mono (by omega))

structure Val where
  k : Int
  n : Int
  s : ByteArray

def Val.v (x : Val) : Value := valV x.k x.n x.s

def Val.zero : Val := ⟨0, 0, ⟨#[]⟩⟩

def Val.fine (x : Val) : Bool := formB x.k x.n x.s && decide ((x.s.size : Int) ≤ 100) && rangeB x.k x.n x.s

def Val.plain (x : Val) : Val := if x.fine then x else Val.zero

/-- What a call leaves of two boxes. -/
theorem two_kept {w w' : World} {o1 o2 : Obj} (h : Below ((w.alloc o1).alloc o2).heap.size ((w.alloc o1).alloc o2) w') : w'.heap[w.heap.size]? = some o1 ∧ w'.heap[w.heap.size + 1]? = some o2 ∧ w.heap.size + 1 < w'.heap.size ∧ Below w.heap.size w w' := by
  have h1 : ((w.alloc o1).alloc o2).heap.size = w.heap.size + 2 := by unfold World.alloc; simp
  have hs := h.size
  refine ⟨?_, ?_, by omega, ?_⟩
  · rw [h.block _ (by omega)]; unfold World.alloc; simp [Array.getElem?_push]
  · rw [h.block _ (by omega)]; exact heap_alloc2_new _ _ _
  · exact (((Below.refl _ w).alloc (Nat.le_refl _) o1).alloc (by unfold World.alloc; simp) o2).trans (h.mono (by omega))

set_option maxRecDepth 20000 in
theorem Tryz.right (k n : Int) (s : ByteArray) (hs : s.size ≤ 9223372036854775807) (w : World) : Calls Tryz.prog 56 #[valV k n s] w fun e w' => e = .returned (.bool (Val.fine ⟨k, n, s⟩)) ∧ Below w.heap.size w w' := by
  unfold valV
  go_enter Tryz.func56, Tryz.ntmps56
  go_wp2_with (first
    | (go_at_call 88; refine (Tryz.form _ _ _ _).mono ?_; rintro e w' ⟨rfl, hb⟩; obtain ⟨c0, c1, c2, hz, hb'⟩ := box_kept hb; clear hb)
    | (go_at_call 89; refine (Tryz.inRange _ _ _ hs _).mono ?_; rintro e w2 ⟨rfl, hb2⟩))
  all_goals (go_ret; refine ⟨congrArg (fun z => Ending.returned (.bool z)) ?_, ?_⟩)
  all_goals first
    | (show _ = Val.fine _; unfold Val.fine; simp [*]; done)
    | (show _ = Val.fine _; unfold Val.fine; grind)
    | exact hb'
    | exact hb'.trans (hb2.mono (by omega))
    | skip

set_option maxRecDepth 20000 in
theorem Tryz.plainV (k n : Int) (s : ByteArray) (hs : s.size ≤ 9223372036854775807) (w : World) : Calls Tryz.prog 32 #[valV k n s] w fun e w' => e = .returned (Val.plain ⟨k, n, s⟩).v ∧ Below w.heap.size w w' := by
  unfold valV
  go_enter Tryz.func32, Tryz.ntmps32
  go_wp2_with (first
    | (go_at_call 56; refine (Tryz.right _ _ _ hs _).mono ?_; rintro e w' ⟨rfl, hb⟩; obtain ⟨b1, b2, hz, hb'⟩ := two_kept hb; clear hb; have c0 : w'.cell? ⟨w.heap.size, 0, none⟩ = some (.int .i64 k) := (by simp [World.cell?, b1]); have c1 : w'.cell? ⟨w.heap.size, 1, none⟩ = some (.int .i64 n) := (by simp [World.cell?, b1]); have c2 : w'.cell? ⟨w.heap.size, 2, none⟩ = some (.string s) := (by simp [World.cell?, b1]); have d0 : w'.cell? ⟨w.heap.size + 1, 0, none⟩ = some (.int .i64 0) := (by simp [World.cell?, b2]); have d1 : w'.cell? ⟨w.heap.size + 1, 1, none⟩ = some (.int .i64 0) := (by simp [World.cell?, b2]); have d2 : w'.cell? ⟨w.heap.size + 1, 2, none⟩ = some (.string ⟨#[]⟩) := (by simp [World.cell?, b2]); have f0 : w'.frozen? ⟨w.heap.size + 1, 0, none⟩ = false := (by simp [World.frozen?, b2]); have f1 : w'.frozen? ⟨w.heap.size + 1, 1, none⟩ = false := (by simp [World.frozen?, b2]); have f2 : w'.frozen? ⟨w.heap.size + 1, 2, none⟩ = false := (by simp [World.frozen?, b2])))
  · refine bodyPost_ret (v := valV k n s) (by simp [results, Tryz.results32, go_sem, valV, *]) rfl ⟨?_, ?_⟩
    · rename_i hf
      simp [Val.plain, hf, Val.v]
    · refine Below.setCell (Below.setCell (Below.setCell hb' ?_ _) ?_ _) ?_ _ <;> exact Nat.le_succ _
  · refine bodyPost_ret (v := valV 0 0 ⟨#[]⟩) (by simp [results, Tryz.results32, go_sem, valV, *]) rfl ⟨?_, ?_⟩
    · rename_i hf
      simp [Val.plain, hf, Val.v, Val.zero]
    · refine Below.setCell (Below.setCell (Below.setCell hb' ?_ _) ?_ _) ?_ _ <;> exact Nat.le_succ _

theorem block_set {W : World} {g i : Nat} {v : Value} {cs : Array Value} {t : TypeId} {fr : Nat × Nat} (h : W.heap[g]? = some (.cells cs t fr)) : (W.setCell ⟨g, i, none⟩ v).heap[g]? = some (.cells (cs.setIfInBounds i v) t fr) := by
  simp [World.setCell, Array.getElem?_modify, h]

theorem block_set_ne {W : World} {g g' i : Nat} {v : Value} (h : g ≠ g') : (W.setCell ⟨g, i, none⟩ v).heap[g']? = W.heap[g']? := by
  simp [World.setCell, Array.getElem?_modify, h]

theorem size_set {W : World} {a : Addr} {v : Value} : (W.setCell a v).heap.size = W.heap.size := by
  simp [World.setCell]

theorem plain_bounds (x : Val) : (0 ≤ x.plain.k ∧ x.plain.k ≤ 4) ∧ (-999999999999999 ≤ x.plain.n ∧ x.plain.n ≤ 999999999999999) ∧ (x.plain.k = 3 → x.plain.n = 0) ∧ (x.plain.k ≠ 3 → x.plain.s.toList.isEmpty = true) ∧ x.plain.s.size ≤ 100 := by
  unfold Val.plain
  cases h : x.fine with
  | false => simp [Val.zero]; decide
  | true =>
    obtain ⟨k, n, s⟩ := x
    simp only [if_true]
    unfold Val.fine formB rangeB inB at h
    simp only [Bool.and_eq_true, decide_eq_true_eq] at h
    obtain ⟨⟨h1, h2⟩, h3⟩ := h
    have h2 : s.size ≤ 100 := by omega
    by_cases h0 : k = 0
    · subst h0; simp_all
    by_cases h3 : k = 3
    · subst h3; simp_all
    by_cases h4 : k = 1
    · subst h4; simp_all; omega
    by_cases h5 : k = 2
    · subst h5; simp_all
    by_cases h6 : k = 4
    · subst h6; simp_all; omega
    · simp_all; omega

/-- At the address lie the values of a list, all in blocks below N. -/
def RowAt (w : World) (N : Nat) (ad : Option Addr) (l : List Val) : Prop :=
  ∀ i (h : i < l.length), ∃ p o, ad = some ⟨p, o, none⟩ ∧ p < N ∧ w.cell? ⟨p, o + i * 3, none⟩ = some (.int .i64 l[i].k) ∧ w.cell? ⟨p, o + i * 3 + 1, none⟩ = some (.int .i64 l[i].n) ∧ w.cell? ⟨p, o + i * 3 + 2, none⟩ = some (.string l[i].s) ∧ l[i].s.size ≤ 9223372036854775807

theorem RowAt.below {w w' : World} {N : Nat} {ad : Option Addr} {l : List Val} (h : RowAt w N ad l) (hb : Below N w w') : RowAt w' N ad l := by
  intro i hi
  obtain ⟨p, o, h1, h2, h3, h4, h5, h6⟩ := h i hi
  exact ⟨p, o, h1, h2, (hb.cell h2).trans h3, (hb.cell h2).trans h4, (hb.cell h2).trans h5, h6⟩

theorem RowAt.later {w w' : World} {ad : Option Addr} {l : List Val} (h : RowAt w w.heap.size ad l) (hb : Below w.heap.size w w') : RowAt w' w'.heap.size ad l := by
  intro i hi
  obtain ⟨p, o, h1, h2, h3⟩ := h.below hb i hi
  exact ⟨p, o, h1, Nat.lt_of_lt_of_le h2 hb.size, h3⟩

theorem cell_block {W : World} {g i : Nat} {cs : Array Value} {t : TypeId} {fr : Nat × Nat} (h : W.heap[g]? = some (.cells cs t fr)) : W.drew.cell? ⟨g, i, none⟩ = cs[i]? := by
  show W.cell? _ = _
  simp [World.cell?, h]

/-- What a call leaves of a box that it does not know. -/
theorem one_kept {w w' : World} {o : Obj} (h : Below (w.alloc o).heap.size (w.alloc o) w') : w'.heap[w.heap.size]? = some o ∧ w.heap.size < w'.heap.size ∧ Below w.heap.size w w' := by
  have h1 : (w.alloc o).heap.size = w.heap.size + 1 := by unfold World.alloc; simp
  have hs := h.size
  exact ⟨(h.block _ (by omega)).trans (heap_alloc_new w o), by omega, below_call h⟩

/-- What is held of a world behind a call: the box of the value lies as it lay. -/
def Kept (w w' : World) : Prop := Below w.heap.size w w' ∧ w.heap.size < w'.heap.size

theorem held_start (w : World) (a b c : Value) (t : TypeId) : (w.alloc (.cells #[a, b, c] t)).drew.cell? ⟨w.heap.size, 0, none⟩ = some a ∧ (w.alloc (.cells #[a, b, c] t)).drew.cell? ⟨w.heap.size, 1, none⟩ = some b ∧ (w.alloc (.cells #[a, b, c] t)).drew.cell? ⟨w.heap.size, 2, none⟩ = some c ∧ Kept w (w.alloc (.cells #[a, b, c] t)).drew := by
  obtain ⟨h1, h2, h3, h4, h5⟩ := box_kept (Below.refl _ (w.alloc (.cells #[a, b, c] t)))
  exact ⟨h1, h2, h3, h5.drew, h4⟩

theorem held_call {w w1 w2 : World} {a b c : Value} (h : w1.cell? ⟨w.heap.size, 0, none⟩ = some a ∧ w1.cell? ⟨w.heap.size, 1, none⟩ = some b ∧ w1.cell? ⟨w.heap.size, 2, none⟩ = some c ∧ Kept w w1) (hb : Below w1.heap.size w1 w2) :
    w2.cell? ⟨w.heap.size, 0, none⟩ = some a ∧ w2.cell? ⟨w.heap.size, 1, none⟩ = some b ∧ w2.cell? ⟨w.heap.size, 2, none⟩ = some c ∧ Kept w w2 := by
  obtain ⟨c0, c1, c2, hk⟩ := h
  exact ⟨(hb.cell hk.2).trans c0, (hb.cell hk.2).trans c1, (hb.cell hk.2).trans c2, hk.1.trans (hb.mono (Nat.le_of_lt hk.2)), Nat.lt_of_lt_of_le hk.2 hb.size⟩

def TwoIn (w W : World) (a b : Val) : Prop :=
  W.heap[w.heap.size]? = some (.cells #[.int .i64 a.k, .int .i64 a.n, .string a.s] 23) ∧ W.heap[w.heap.size + 1]? = some (.cells #[.int .i64 b.k, .int .i64 b.n, .string b.s] 23) ∧ Below w.heap.size w W ∧ w.heap.size + 1 < W.heap.size

theorem TwoIn.next {w W W' : World} {a b : Val} (h : TwoIn w W a b) (hb : Below W.heap.size W W') : TwoIn w W' a b := by
  obtain ⟨h1, h2, h3, h4⟩ := h
  have := hb.size
  exact ⟨(hb.block _ (by omega)).trans h1, (hb.block _ h4).trans h2, h3.trans (hb.mono (by omega)), by omega⟩

theorem TwoIn.cells {w W : World} {a b : Val} (h : TwoIn w W a b) :
    (W.cell? ⟨w.heap.size, 0, none⟩ = some (.int .i64 a.k) ∧ W.cell? ⟨w.heap.size, 1, none⟩ = some (.int .i64 a.n) ∧ W.cell? ⟨w.heap.size, 2, none⟩ = some (.string a.s)) ∧
    (W.cell? ⟨w.heap.size + 1, 0, none⟩ = some (.int .i64 b.k) ∧ W.cell? ⟨w.heap.size + 1, 1, none⟩ = some (.int .i64 b.n) ∧ W.cell? ⟨w.heap.size + 1, 2, none⟩ = some (.string b.s)) ∧
    (W.frozen? ⟨w.heap.size, 0, none⟩ = false ∧ W.frozen? ⟨w.heap.size, 1, none⟩ = false ∧ W.frozen? ⟨w.heap.size, 2, none⟩ = false) ∧
    (W.frozen? ⟨w.heap.size + 1, 0, none⟩ = false ∧ W.frozen? ⟨w.heap.size + 1, 1, none⟩ = false ∧ W.frozen? ⟨w.heap.size + 1, 2, none⟩ = false) := by
  obtain ⟨h1, h2, h3, h4⟩ := h
  refine ⟨⟨?_, ?_, ?_⟩, ⟨?_, ?_, ?_⟩, ⟨?_, ?_, ?_⟩, ⟨?_, ?_, ?_⟩⟩ <;> simp [World.cell?, World.frozen?, h1, h2]

theorem TwoIn.drew {w W : World} {a b : Val} (h : TwoIn w W a b) : TwoIn w W.drew a b := ⟨h.1, h.2.1, h.2.2.1.drew, h.2.2.2⟩

theorem TwoIn.start (w : World) (a b : Val) : TwoIn w ((w.alloc (.cells #[.int .i64 a.k, .int .i64 a.n, .string a.s] 23)).alloc (.cells #[.int .i64 b.k, .int .i64 b.n, .string b.s] 23)) a b := by
  obtain ⟨h1, h2, h3, h4⟩ := two_kept (Below.refl _ ((w.alloc (.cells #[.int .i64 a.k, .int .i64 a.n, .string a.s] 23)).alloc (.cells #[.int .i64 b.k, .int .i64 b.n, .string b.s] 23)))
  exact ⟨h1, h2, h4, h3⟩

theorem TwoIn.stored {w W : World} {a b : Val} (x y : Val) (h : TwoIn w W a b) :
    TwoIn w ((((((W.setCell ⟨w.heap.size, 0, none⟩ (.int .i64 x.k)).setCell ⟨w.heap.size, 1, none⟩ (.int .i64 x.n)).setCell ⟨w.heap.size, 2, none⟩ (.string x.s)).setCell ⟨w.heap.size + 1, 0, none⟩ (.int .i64 y.k)).setCell ⟨w.heap.size + 1, 1, none⟩ (.int .i64 y.n)).setCell ⟨w.heap.size + 1, 2, none⟩ (.string y.s)) x y := by
  obtain ⟨h1, h2, h3, h4⟩ := h
  refine ⟨?_, ?_, ?_, by simp only [size_set]; exact h4⟩
  · rw [block_set_ne (by omega), block_set_ne (by omega), block_set_ne (by omega), block_set (block_set (block_set h1))]
    rfl
  · rw [block_set (block_set (block_set (g := w.heap.size + 1) (cs := #[.int .i64 b.k, .int .i64 b.n, .string b.s]) (t := 23) (fr := (0, 0)) ?_))]
    · rfl
    · rw [block_set_ne (by omega), block_set_ne (by omega), block_set_ne (by omega), h2]
  · refine Below.setCell (Below.setCell (Below.setCell (Below.setCell (Below.setCell (Below.setCell h3 ?_ _) ?_ _) ?_ _) ?_ _) ?_ _) ?_ _ <;> first | exact Nat.le_refl _ | exact Nat.le_succ _

theorem TwoIn.fst {w W : World} {a b : Val} (x : Val) (h : TwoIn w W a b) :
    TwoIn w (((W.setCell ⟨w.heap.size, 0, none⟩ (.int .i64 x.k)).setCell ⟨w.heap.size, 1, none⟩ (.int .i64 x.n)).setCell ⟨w.heap.size, 2, none⟩ (.string x.s)) x b := by
  obtain ⟨h1, h2, h3, h4⟩ := h
  refine ⟨?_, ?_, ?_, by simp only [size_set]; exact h4⟩
  · rw [block_set (block_set (block_set h1))]
    rfl
  · rw [block_set_ne (by omega), block_set_ne (by omega), block_set_ne (by omega), h2]
  · refine Below.setCell (Below.setCell (Below.setCell h3 ?_ _) ?_ _) ?_ _ <;> exact Nat.le_refl _

/-- Two boxes and behind them a third one. -/
def ThreeIn (w W : World) (a b c : Val) : Prop := TwoIn w W a b ∧ W.heap[w.heap.size + 2]? = some (.cells #[.int .i64 c.k, .int .i64 c.n, .string c.s] 23) ∧ w.heap.size + 2 < W.heap.size

theorem ThreeIn.next {w W W' : World} {a b c : Val} (h : ThreeIn w W a b c) (hb : Below W.heap.size W W') : ThreeIn w W' a b c := by
  have := hb.size
  exact ⟨h.1.next hb, (hb.block _ h.2.2).trans h.2.1, by have := h.2.2; omega⟩

theorem ThreeIn.drew {w W : World} {a b c : Val} (h : ThreeIn w W a b c) : ThreeIn w W.drew a b c := ⟨h.1.drew, h.2⟩

theorem ThreeIn.start (w : World) (a b c : Val) : ThreeIn w (((w.alloc (.cells #[.int .i64 a.k, .int .i64 a.n, .string a.s] 23)).alloc (.cells #[.int .i64 b.k, .int .i64 b.n, .string b.s] 23)).alloc (.cells #[.int .i64 c.k, .int .i64 c.n, .string c.s] 23)) a b c := by
  have h := TwoIn.start w a b
  have hs : ((w.alloc (.cells #[.int .i64 a.k, .int .i64 a.n, .string a.s] 23)).alloc (.cells #[.int .i64 b.k, .int .i64 b.n, .string b.s] 23)).heap.size = w.heap.size + 2 := by unfold World.alloc; simp
  refine ⟨h.next ((Below.refl _ _).alloc (Nat.le_refl _) _), ?_, ?_⟩
  · rw [← hs]; exact heap_alloc_new _ _
  · rw [← hs]; unfold World.alloc; simp

theorem ThreeIn.third {w W : World} {a b c : Val} (h : ThreeIn w W a b c) :
    (W.cell? ⟨w.heap.size + 2, 0, none⟩ = some (.int .i64 c.k) ∧ W.cell? ⟨w.heap.size + 2, 1, none⟩ = some (.int .i64 c.n) ∧ W.cell? ⟨w.heap.size + 2, 2, none⟩ = some (.string c.s)) ∧
    (W.frozen? ⟨w.heap.size + 2, 0, none⟩ = false ∧ W.frozen? ⟨w.heap.size + 2, 1, none⟩ = false ∧ W.frozen? ⟨w.heap.size + 2, 2, none⟩ = false) := by
  refine ⟨⟨?_, ?_, ?_⟩, ?_, ?_, ?_⟩ <;> simp [World.cell?, World.frozen?, h.2.1]

theorem ThreeIn.stored {w W : World} {a b c : Val} (x y : Val) (h : ThreeIn w W a b c) :
    ThreeIn w ((((((W.setCell ⟨w.heap.size, 0, none⟩ (.int .i64 x.k)).setCell ⟨w.heap.size, 1, none⟩ (.int .i64 x.n)).setCell ⟨w.heap.size, 2, none⟩ (.string x.s)).setCell ⟨w.heap.size + 1, 0, none⟩ (.int .i64 y.k)).setCell ⟨w.heap.size + 1, 1, none⟩ (.int .i64 y.n)).setCell ⟨w.heap.size + 1, 2, none⟩ (.string y.s)) x y c := by
  refine ⟨h.1.stored x y, ?_, by simp only [size_set]; exact h.2.2⟩
  rw [block_set_ne (by omega), block_set_ne (by omega), block_set_ne (by omega), block_set_ne (by omega), block_set_ne (by omega), block_set_ne (by omega)]
  exact h.2.1

end Go.Proofs
