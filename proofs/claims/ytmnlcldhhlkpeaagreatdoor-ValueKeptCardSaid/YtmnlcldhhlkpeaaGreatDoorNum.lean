/- Of package value: Add, Div, Mod, Mul, each by what it answers. No condition. -/
import Derived.Test.YtmnlcldhhlkpeaaGreatDoorTri
namespace Go.Proofs
open Go.RowKit

theorem free_zero {w' : World} {g : Nat} (h : w'.heap[g]? = some (.cells #[.int .i64 0, .int .i64 0, .string ⟨#[]⟩] 23)) :
    (w'.cell? ⟨g, 0, none⟩ = some (.int .i64 0) ∧ w'.cell? ⟨g, 1, none⟩ = some (.int .i64 0) ∧ w'.cell? ⟨g, 2, none⟩ = some (.string ⟨#[]⟩)) ∧
    (w'.frozen? ⟨g, 0, none⟩ = false ∧ w'.frozen? ⟨g, 1, none⟩ = false ∧ w'.frozen? ⟨g, 2, none⟩ = false) := by
  refine ⟨⟨?_, ?_, ?_⟩, ?_, ?_, ?_⟩ <;> simp [World.cell?, World.frozen?, h]

theorem Tryz.number (k n : Int) (w : World) : Calls Tryz.prog 33 #[.int .i64 k, .int .i64 n] w fun e w' => e = .returned (Val.plain ⟨k, n, ⟨#[]⟩⟩).v ∧ Below w.heap.size w w' := by
  go_enter Tryz.func33, Tryz.ntmps33
  go_wp2_with (go_at_call 32; refine (Tryz.plainV k n ⟨#[]⟩ (Nat.zero_le _) _).mono ?_; rintro e w' ⟨rfl, hb⟩; obtain ⟨b1, hz, hb'⟩ := one_kept hb; obtain ⟨⟨c0, c1, c2⟩, f0, f1, f2⟩ := free_zero b1; simp only [Val.v, valV])
  refine bodyPost_ret (v := (Val.plain ⟨k, n, ⟨#[]⟩⟩).v) (by simp [results, Tryz.results33, go_sem, Val.v, valV, *]) rfl ⟨rfl, ?_⟩
  refine Below.setCell (Below.setCell (Below.setCell hb' ?_ _) ?_ _) ?_ _ <;> exact Nat.le_refl _

def intB (x : Val) : Bool := x.plain.k == 2

set_option maxRecDepth 20000 in
theorem Tryz.ints (l : List Val) (ad : Option Addr) (cap : Nat) (w : World) (hl : RowAt w w.heap.size ad l) (ll : l.length ≤ 9223372036854775807) :
    Calls Tryz.prog 31 #[.slice ad l.length cap] w fun e w' => e = .returned (.bool (l.all intB)) ∧ Below w.heap.size w w' := by
  have hf := field0
  go_enter Tryz.func31, Tryz.ntmps31
  go_wp2_with fail
  go_loopw [7] (fun i wr => ∃ k : Nat, i = .int .i64 k ∧ k ≤ l.length ∧ (l.take k).all intB = true ∧ Below w.heap.size w wr) (fun i _ => l.length - (intOf i).toNat)
  case atStart => exact ⟨0, rfl, Nat.zero_le _, rfl, Below.refl _ _⟩
  case round =>
    obtain ⟨k, rfl, hk, hall, hw⟩ := hrel
    by_cases hlt : k < l.length
    · obtain ⟨p, o, rfl, hp, c0, c1, c2, sa⟩ := hl.below hw k hlt
      have hw1 : Below w.heap.size w (wr.alloc (.cells #[.int .i64 l[k].k, .int .i64 l[k].n, .string l[k].s] 23)) := hw.alloc hw.size _
      go_wp2_with (go_at_call 32; refine (Tryz.plainV l[k].k l[k].n l[k].s sa _).mono ?_; rintro e w2 ⟨rfl, hb2⟩; simp only [Val.v, valV])
      · rename_i hne
        go_ret
        refine ⟨congrArg (fun b => Ending.returned (.bool b)) ?_, hw1.trans (hb2.mono hw1.size)⟩
        have hx : intB l[k] = false := by simpa [intB] using hne
        exact (List.all_eq_false.mpr ⟨l[k], List.getElem_mem hlt, by simp [hx]⟩).symm
      · rename_i hne
        have hx : intB l[k] = true := by simpa [intB] using hne
        go_roundw
        case rel =>
          refine ⟨k + 1, by go_num, by omega, ?_, hw1.trans (hb2.mono hw1.size)⟩
          rw [List.take_succ_eq_append_getElem hlt, List.all_append, hall]
          simp [hx]
        case measure => simp [intOf]; omega
    · have hkl : k = l.length := by omega
      go_wp2
      go_ret
      refine ⟨congrArg (fun b => Ending.returned (.bool b)) ?_, hw⟩
      rw [hkl, List.take_length] at hall
      exact hall.symm

theorem cellB {W : World} {g i : Nat} {cs : Array Value} {t : TypeId} {fr : Nat × Nat} (h : W.heap[g]? = some (.cells cs t fr)) : W.cell? ⟨g, i, none⟩ = cs[i]? := by
  simp [World.cell?, h]

theorem row_one {W : World} {k n : Int} {s : ByteArray} (hs : s.size ≤ 9223372036854775807) :
    RowAt (W.alloc (.cells #[.int .i64 k, .int .i64 n, .string s] 23)) (W.alloc (.cells #[.int .i64 k, .int .i64 n, .string s] 23)).heap.size (some ⟨W.heap.size, 0, none⟩) [⟨k, n, s⟩] := by
  intro i hi
  have h0 : i = 0 := by simpa using hi
  subst h0
  have hb := heap_alloc_new W (.cells #[.int .i64 k, .int .i64 n, .string s] 23)
  have hz : W.heap.size < (W.alloc (.cells #[.int .i64 k, .int .i64 n, .string s] 23)).heap.size := by unfold World.alloc; simp
  exact ⟨_, _, rfl, hz, (cellB hb).trans rfl, (cellB hb).trans rfl, (cellB hb).trans rfl, hs⟩

theorem row_two {W : World} {k n k' n' : Int} {s s' : ByteArray} (hs : s.size ≤ 9223372036854775807) (hs' : s'.size ≤ 9223372036854775807) :
    RowAt (W.alloc (.cells #[.int .i64 k, .int .i64 n, .string s, .int .i64 k', .int .i64 n', .string s'] 23)) (W.alloc (.cells #[.int .i64 k, .int .i64 n, .string s, .int .i64 k', .int .i64 n', .string s'] 23)).heap.size (some ⟨W.heap.size, 0, none⟩) [⟨k, n, s⟩, ⟨k', n', s'⟩] := by
  intro i hi
  have hb := heap_alloc_new W (.cells #[.int .i64 k, .int .i64 n, .string s, .int .i64 k', .int .i64 n', .string s'] 23)
  have hz : W.heap.size < (W.alloc (.cells #[.int .i64 k, .int .i64 n, .string s, .int .i64 k', .int .i64 n', .string s'] 23)).heap.size := by unfold World.alloc; simp
  have hi : i < 2 := by simpa using hi
  match i, hi with
  | 0, _ => exact ⟨_, _, rfl, hz, (cellB hb).trans rfl, (cellB hb).trans rfl, (cellB hb).trans rfl, hs⟩
  | 1, _ => exact ⟨_, _, rfl, hz, (cellB hb).trans rfl, (cellB hb).trans rfl, (cellB hb).trans rfl, hs'⟩

theorem int_fine {x : Val} (h : intB x = true) : x.k = 2 ∧ -999999999999999 ≤ x.n ∧ x.n ≤ 999999999999999 ∧ x.s.toList = [] := by
  unfold intB Val.plain at h
  cases hf : x.fine with
  | false => rw [hf] at h; simp [Val.zero] at h
  | true =>
    rw [hf] at h
    simp only [if_true, beq_iff_eq] at h
    unfold Val.fine formB rangeB inB at hf
    simp only [h] at hf
    simp only [Bool.and_eq_true, decide_eq_true_eq] at hf
    simp at hf
    exact ⟨h, hf.2.1, hf.2.2, hf.1.1⟩

/-- A number of a kind; null, if it is not right. -/
def numV (k n : Int) : Val := Val.plain ⟨k, n, ⟨#[]⟩⟩

def addV (a b : Val) : Val := if !intB b || (!intB a && (a.plain.k != 4)) then Val.zero else numV a.k (wrap64 (a.n + b.n))

theorem Tryz.ints1 (k n : Int) (s : ByteArray) (hs : s.size ≤ 9223372036854775807) (W : World) (g : Nat) (hg : g = W.heap.size) :
    Calls Tryz.prog 31 #[.slice (some ⟨g, 0, none⟩) 1 1] (W.alloc (.cells #[.int .i64 k, .int .i64 n, .string s] 23)) fun e w' => e = .returned (.bool (intB ⟨k, n, s⟩)) ∧ Below W.heap.size W w' := by
  subst hg
  refine (Tryz.ints [⟨k, n, s⟩] _ 1 _ (row_one hs) (by simp)).mono ?_
  rintro e w1 ⟨rfl, hb1⟩
  exact ⟨by simp, below_call hb1⟩

theorem Tryz.ints2 (k n k' n' : Int) (s s' : ByteArray) (hs : s.size ≤ 9223372036854775807) (hs' : s'.size ≤ 9223372036854775807) (W : World) (g : Nat) (hg : g = W.heap.size) :
    Calls Tryz.prog 31 #[.slice (some ⟨g, 0, none⟩) 2 2] (W.alloc (.cells #[.int .i64 k, .int .i64 n, .string s, .int .i64 k', .int .i64 n', .string s'] 23)) fun e w' => e = .returned (.bool (intB ⟨k, n, s⟩ && intB ⟨k', n', s'⟩)) ∧ Below W.heap.size W w' := by
  subst hg
  refine (Tryz.ints [⟨k, n, s⟩, ⟨k', n', s'⟩] _ 2 _ (row_two hs hs') (by simp)).mono ?_
  rintro e w1 ⟨rfl, hb1⟩
  exact ⟨by simp, below_call hb1⟩

set_option maxRecDepth 20000 in
set_option maxHeartbeats 2000000 in
theorem Tryz.addV (a b : Val) (ha : a.s.size ≤ 9223372036854775807) (hb : b.s.size ≤ 9223372036854775807) (w : World) : Calls Tryz.prog 10 #[a.v, b.v] w fun e w' => e = .returned (addV a b).v ∧ Below w.heap.size w w' := by
  have hT := ThreeIn.start w a b Val.zero
  have hf := field0
  obtain ⟨k, n, s⟩ := a
  obtain ⟨k', n', s'⟩ := b
  unfold Val.v valV
  go_enter Tryz.func10, Tryz.ntmps10
  go_wp2_with fail
  refine (Tryz.ints1 k' n' s' hb _ _ (by unfold World.alloc; simp)).mono ?_
  rintro e w1 ⟨rfl, hb1⟩
  have hT1 := ThreeIn.next (a := ⟨k, n, s⟩) (b := ⟨k', n', s'⟩) (c := Val.zero) hT hb1
  clear hT hb1
  try clear c0 c1 c2 d0 d1 d2 f0 f1 f2 g0 g1 g2 x0 x1 x2 y0 y1 y2
  obtain ⟨⟨c0, c1, c2⟩, ⟨d0, d1, d2⟩, ⟨f0, f1, f2⟩, g0, g1, g2⟩ := hT1.1.cells
  obtain ⟨⟨x0, x1, x2⟩, y0, y1, y2⟩ := hT1.third
  cases hB : intB ⟨k', n', s'⟩ with
  | false =>
    go_wp2_with fail
    have hs : Proofs.addV ⟨k, n, s⟩ ⟨k', n', s'⟩ = Val.zero := by simp [Proofs.addV, hB]
    exact bodyPost_ret (res_box Tryz.results10 rfl (ThreeIn.stored3 (Val.zero) hT1).2.1) rfl ⟨congrArg (fun v : Val => Ending.returned v.v) hs.symm, (ThreeIn.stored3 (Val.zero) hT1).1.2.2.1⟩
  | true =>
    go_wp2_with fail
    refine (Tryz.ints1 k n s ha _ _ rfl).mono ?_
    rintro e w2 ⟨rfl, hb2⟩
    have hT2 := ThreeIn.next (a := ⟨k, n, s⟩) (b := ⟨k', n', s'⟩) (c := Val.zero) hT1 hb2
    clear hT1 hb2
    try clear c0 c1 c2 d0 d1 d2 f0 f1 f2 g0 g1 g2 x0 x1 x2 y0 y1 y2
    obtain ⟨⟨c0, c1, c2⟩, ⟨d0, d1, d2⟩, ⟨f0, f1, f2⟩, g0, g1, g2⟩ := hT2.1.cells
    obtain ⟨⟨x0, x1, x2⟩, y0, y1, y2⟩ := hT2.third
    cases hA : intB ⟨k, n, s⟩ with
    | false =>
      go_wp2_with fail
      refine (Tryz.plainV k n s ha _).mono ?_
      rintro e w3 ⟨rfl, hb3⟩
      simp only [Val.v, valV]
      have hT3 := ThreeIn.next (a := ⟨k, n, s⟩) (b := ⟨k', n', s'⟩) (c := Val.zero) hT2 hb3
      clear hT2 hb3
      try clear c0 c1 c2 d0 d1 d2 f0 f1 f2 g0 g1 g2 x0 x1 x2 y0 y1 y2
      obtain ⟨⟨c0, c1, c2⟩, ⟨d0, d1, d2⟩, ⟨f0, f1, f2⟩, g0, g1, g2⟩ := hT3.1.cells
      obtain ⟨⟨x0, x1, x2⟩, y0, y1, y2⟩ := hT3.third
      by_cases h4 : (Val.plain ⟨k, n, s⟩).k = 4
      · go_wp2_with fail
        refine (Tryz.number _ _ _).mono ?_
        rintro e w4 ⟨rfl, hb4⟩
        simp only [Val.v, valV]
        have hT4 := ThreeIn.next (a := ⟨k, n, s⟩) (b := ⟨k', n', s'⟩) (c := Val.zero) hT3 hb4
        clear hT3 hb4
        try clear c0 c1 c2 d0 d1 d2 f0 f1 f2 g0 g1 g2 x0 x1 x2 y0 y1 y2
        obtain ⟨⟨c0, c1, c2⟩, ⟨d0, d1, d2⟩, ⟨f0, f1, f2⟩, g0, g1, g2⟩ := hT4.1.cells
        obtain ⟨⟨x0, x1, x2⟩, y0, y1, y2⟩ := hT4.third
        go_wp2_with fail
        have hs : Proofs.addV ⟨k, n, s⟩ ⟨k', n', s'⟩ = numV k (wrap64 (n + n')) := by simp [Proofs.addV, hB, hA, h4]
        exact bodyPost_ret (res_box Tryz.results10 rfl (ThreeIn.stored3 (numV k (wrap64 (n + n'))) hT4).2.1) rfl ⟨congrArg (fun v : Val => Ending.returned v.v) hs.symm, (ThreeIn.stored3 (numV k (wrap64 (n + n'))) hT4).1.2.2.1⟩
      · have h4' : ((Val.plain ⟨k, n, s⟩).k != 4) = true := by simpa using h4
        go_wp2_with fail
        have hs : Proofs.addV ⟨k, n, s⟩ ⟨k', n', s'⟩ = Val.zero := by simp [Proofs.addV, hB, hA, h4']
        exact bodyPost_ret (res_box Tryz.results10 rfl (ThreeIn.stored3 (Val.zero) hT3).2.1) rfl ⟨congrArg (fun v : Val => Ending.returned v.v) hs.symm, (ThreeIn.stored3 (Val.zero) hT3).1.2.2.1⟩
    | true =>
      go_wp2_with fail
      refine (Tryz.number _ _ _).mono ?_
      rintro e w4 ⟨rfl, hb4⟩
      simp only [Val.v, valV]
      have hT4 := ThreeIn.next (a := ⟨k, n, s⟩) (b := ⟨k', n', s'⟩) (c := Val.zero) hT2 hb4
      clear hT2 hb4
      try clear c0 c1 c2 d0 d1 d2 f0 f1 f2 g0 g1 g2 x0 x1 x2 y0 y1 y2
      obtain ⟨⟨c0, c1, c2⟩, ⟨d0, d1, d2⟩, ⟨f0, f1, f2⟩, g0, g1, g2⟩ := hT4.1.cells
      obtain ⟨⟨x0, x1, x2⟩, y0, y1, y2⟩ := hT4.third
      go_wp2_with fail
      have hs : Proofs.addV ⟨k, n, s⟩ ⟨k', n', s'⟩ = numV k (wrap64 (n + n')) := by simp [Proofs.addV, hB, hA]
      exact bodyPost_ret (res_box Tryz.results10 rfl (ThreeIn.stored3 (numV k (wrap64 (n + n'))) hT4).2.1) rfl ⟨congrArg (fun v : Val => Ending.returned v.v) hs.symm, (ThreeIn.stored3 (numV k (wrap64 (n + n'))) hT4).1.2.2.1⟩

/-- Rounded down. -/
def floorI (a b : Int) : Int := if a.tmod b ≠ 0 ∧ decide (a < 0) ≠ decide (b < 0) then a.tdiv b - 1 else a.tdiv b

theorem tdiv_small {a b : Int} (h1 : -999999999999999 ≤ a) (h2 : a ≤ 999999999999999) : -999999999999999 ≤ a.tdiv b ∧ a.tdiv b ≤ 999999999999999 := by
  have h := Int.natAbs_tdiv_le_natAbs a b
  omega

theorem tmod_small {a b : Int} (h1 : -999999999999999 ≤ a) (h2 : a ≤ 999999999999999) : -999999999999999 ≤ a.tmod b ∧ a.tmod b ≤ 999999999999999 := by
  have h : (a.tmod b).natAbs ≤ a.natAbs := by
    rw [Int.natAbs_tmod]
    exact Nat.mod_le _ _
  omega

theorem Tryz.floor (a b : Int) (h0 : b ≠ 0) (h1 : -999999999999999 ≤ a) (h2 : a ≤ 999999999999999) (w : World) : Calls Tryz.prog 34 #[.int .i64 a, .int .i64 b] w fun e w' => e = .returned (.int .i64 (floorI a b)) ∧ w' = w := by
  have hd := tdiv_small (b := b) h1 h2
  have hm := tmod_small (b := b) h1 h2
  go_enter Tryz.func34, Tryz.ntmps34
  go_wp2
  · go_ret
    exact ⟨by simp [floorI, *], rfl⟩
  · rename_i hx
    go_ret
    refine ⟨congrArg (fun z => Ending.returned (.int .i64 z)) ?_, rfl⟩
    unfold floorI
    rw [if_pos ⟨by simpa using hx.1, by have h3 := hx.2; revert h3; generalize decide (a < 0) = p; generalize decide (b < 0) = q; cases p <;> cases q <;> simp⟩]
  · rename_i hx
    go_ret
    refine ⟨congrArg (fun z => Ending.returned (.int .i64 z)) ?_, rfl⟩
    unfold floorI
    rw [if_neg fun hc => ?_]
    rcases hx with h3 | h3
    · exact hc.1 (by simpa using h3)
    · have h4 := hc.2
      revert h3 h4
      generalize decide (a < 0) = p
      generalize decide (b < 0) = q
      cases p <;> cases q <;> simp

def divV (a b : Val) : Val := if !(intB a && intB b) || (b.n == 0) then Val.zero else numV 2 (floorI a.n b.n)

set_option maxRecDepth 20000 in
set_option maxHeartbeats 2000000 in
theorem Tryz.divV (a b : Val) (ha : a.s.size ≤ 9223372036854775807) (hb : b.s.size ≤ 9223372036854775807) (w : World) : Calls Tryz.prog 11 #[a.v, b.v] w fun e w' => e = .returned (divV a b).v ∧ Below w.heap.size w w' := by
  have hT := ThreeIn.start w a b Val.zero
  have hf := field0
  obtain ⟨k, n, s⟩ := a
  obtain ⟨k', n', s'⟩ := b
  unfold Val.v valV
  go_enter Tryz.func11, Tryz.ntmps11
  go_wp2_with fail
  refine (Tryz.ints2 k n k' n' s s' ha hb _ _ (by unfold World.alloc; simp)).mono ?_
  rintro e w1 ⟨rfl, hb1⟩
  have hT1 := ThreeIn.next (a := ⟨k, n, s⟩) (b := ⟨k', n', s'⟩) (c := Val.zero) hT hb1
  clear hT hb1
  try clear c0 c1 c2 d0 d1 d2 f0 f1 f2 g0 g1 g2 x0 x1 x2 y0 y1 y2
  obtain ⟨⟨c0, c1, c2⟩, ⟨d0, d1, d2⟩, ⟨f0, f1, f2⟩, g0, g1, g2⟩ := hT1.1.cells
  obtain ⟨⟨x0, x1, x2⟩, y0, y1, y2⟩ := hT1.third
  cases hI : (intB ⟨k, n, s⟩ && intB ⟨k', n', s'⟩) with
  | false =>
    go_wp2_with fail
    have hs : Proofs.divV ⟨k, n, s⟩ ⟨k', n', s'⟩ = Val.zero := by unfold Proofs.divV; rw [hI]; rfl
    exact bodyPost_ret (res_box Tryz.results11 rfl (ThreeIn.stored3 (Val.zero) hT1).2.1) rfl ⟨congrArg (fun v : Val => Ending.returned v.v) hs.symm, (ThreeIn.stored3 (Val.zero) hT1).1.2.2.1⟩
  | true =>
    by_cases h0 : n' = 0
    · have h0' : (n' == 0) = true := by simpa using h0
      go_wp2_with fail
      have hs : Proofs.divV ⟨k, n, s⟩ ⟨k', n', s'⟩ = Val.zero := by unfold Proofs.divV; simp only [h0']; simp
      exact bodyPost_ret (res_box Tryz.results11 rfl (ThreeIn.stored3 (Val.zero) hT1).2.1) rfl ⟨congrArg (fun v : Val => Ending.returned v.v) hs.symm, (ThreeIn.stored3 (Val.zero) hT1).1.2.2.1⟩
    · have h0' : (n' == 0) = false := by simpa using h0
      rw [Bool.and_eq_true] at hI
      have b1 := (int_fine hI.1).2.1
      have b2 := (int_fine hI.1).2.2.1
      dsimp only at b1 b2
      obtain ⟨hI1, hI2⟩ := hI
      go_wp2_with fail
      refine (Tryz.floor n n' h0 b1 b2 _).mono ?_
      rintro e w2 ⟨rfl, rfl⟩
      go_wp2_with fail
      refine (Tryz.number _ _ _).mono ?_
      rintro e w4 ⟨rfl, hb4⟩
      simp only [Val.v, valV]
      have hT4 := ThreeIn.next (a := ⟨k, n, s⟩) (b := ⟨k', n', s'⟩) (c := Val.zero) hT1 hb4
      clear hT1 hb4
      try clear c0 c1 c2 d0 d1 d2 f0 f1 f2 g0 g1 g2 x0 x1 x2 y0 y1 y2
      obtain ⟨⟨c0, c1, c2⟩, ⟨d0, d1, d2⟩, ⟨f0, f1, f2⟩, g0, g1, g2⟩ := hT4.1.cells
      obtain ⟨⟨x0, x1, x2⟩, y0, y1, y2⟩ := hT4.third
      go_wp2_with fail
      have hs : Proofs.divV ⟨k, n, s⟩ ⟨k', n', s'⟩ = numV 2 (floorI n n') := by simp [Proofs.divV, hI1, hI2, h0]
      exact bodyPost_ret (res_box Tryz.results11 rfl (ThreeIn.stored3 (numV 2 (floorI n n')) hT4).2.1) rfl ⟨congrArg (fun v : Val => Ending.returned v.v) hs.symm, (ThreeIn.stored3 (numV 2 (floorI n n')) hT4).1.2.2.1⟩

def modV (a b : Val) : Val := if !(intB a && intB b) || (b.n == 0) then Val.zero else numV 2 (wrap64 (a.n - wrap64 (b.n * floorI a.n b.n)))

set_option maxRecDepth 20000 in
set_option maxHeartbeats 2000000 in
theorem Tryz.modV (a b : Val) (ha : a.s.size ≤ 9223372036854775807) (hb : b.s.size ≤ 9223372036854775807) (w : World) : Calls Tryz.prog 12 #[a.v, b.v] w fun e w' => e = .returned (modV a b).v ∧ Below w.heap.size w w' := by
  have hT := ThreeIn.start w a b Val.zero
  have hf := field0
  obtain ⟨k, n, s⟩ := a
  obtain ⟨k', n', s'⟩ := b
  unfold Val.v valV
  go_enter Tryz.func12, Tryz.ntmps12
  go_wp2_with fail
  refine (Tryz.ints2 k n k' n' s s' ha hb _ _ (by unfold World.alloc; simp)).mono ?_
  rintro e w1 ⟨rfl, hb1⟩
  have hT1 := ThreeIn.next (a := ⟨k, n, s⟩) (b := ⟨k', n', s'⟩) (c := Val.zero) hT hb1
  clear hT hb1
  try clear c0 c1 c2 d0 d1 d2 f0 f1 f2 g0 g1 g2 x0 x1 x2 y0 y1 y2
  obtain ⟨⟨c0, c1, c2⟩, ⟨d0, d1, d2⟩, ⟨f0, f1, f2⟩, g0, g1, g2⟩ := hT1.1.cells
  obtain ⟨⟨x0, x1, x2⟩, y0, y1, y2⟩ := hT1.third
  cases hI : (intB ⟨k, n, s⟩ && intB ⟨k', n', s'⟩) with
  | false =>
    go_wp2_with fail
    have hs : Proofs.modV ⟨k, n, s⟩ ⟨k', n', s'⟩ = Val.zero := by unfold Proofs.modV; rw [hI]; rfl
    exact bodyPost_ret (res_box Tryz.results12 rfl (ThreeIn.stored3 (Val.zero) hT1).2.1) rfl ⟨congrArg (fun v : Val => Ending.returned v.v) hs.symm, (ThreeIn.stored3 (Val.zero) hT1).1.2.2.1⟩
  | true =>
    by_cases h0 : n' = 0
    · have h0' : (n' == 0) = true := by simpa using h0
      go_wp2_with fail
      have hs : Proofs.modV ⟨k, n, s⟩ ⟨k', n', s'⟩ = Val.zero := by unfold Proofs.modV; simp only [h0']; simp
      exact bodyPost_ret (res_box Tryz.results12 rfl (ThreeIn.stored3 (Val.zero) hT1).2.1) rfl ⟨congrArg (fun v : Val => Ending.returned v.v) hs.symm, (ThreeIn.stored3 (Val.zero) hT1).1.2.2.1⟩
    · have h0' : (n' == 0) = false := by simpa using h0
      rw [Bool.and_eq_true] at hI
      have b1 := (int_fine hI.1).2.1
      have b2 := (int_fine hI.1).2.2.1
      dsimp only at b1 b2
      obtain ⟨hI1, hI2⟩ := hI
      go_wp2_with fail
      refine wp_region_still_tail 11 tryz_mixed (by kernel_rfl) ?_
      change wpStill _ _ w1.drew _ _ _
      have hT2 := hT1.drew
      simp only [List.take_succ_cons, List.take_zero, List.drop_succ_cons, List.drop_zero]
      iterate 8 still_step
      still_call (Tryz.floor n n' h0 b1 b2 _)
      still_step
      still_step
      refine wpStill_nil ?_
      change wpList _ _ _ _ _ _
      go_wp2_with fail
      refine (Tryz.number _ _ _).mono ?_
      rintro e w4 ⟨rfl, hb4⟩
      simp only [Val.v, valV]
      have hT4 := ThreeIn.next (a := ⟨k, n, s⟩) (b := ⟨k', n', s'⟩) (c := Val.zero) hT2 hb4
      clear hT2 hb4
      try clear c0 c1 c2 d0 d1 d2 f0 f1 f2 g0 g1 g2 x0 x1 x2 y0 y1 y2
      obtain ⟨⟨c0, c1, c2⟩, ⟨d0, d1, d2⟩, ⟨f0, f1, f2⟩, g0, g1, g2⟩ := hT4.1.cells
      obtain ⟨⟨x0, x1, x2⟩, y0, y1, y2⟩ := hT4.third
      go_wp2_with fail
      have hs : Proofs.modV ⟨k, n, s⟩ ⟨k', n', s'⟩ = numV 2 (wrap64 (n - wrap64 (n' * floorI n n'))) := by simp [Proofs.modV, hI1, hI2, h0]
      exact bodyPost_ret (res_box Tryz.results12 rfl (ThreeIn.stored3 (numV 2 (wrap64 (n - wrap64 (n' * floorI n n')))) hT4).2.1) rfl ⟨congrArg (fun v : Val => Ending.returned v.v) hs.symm, (ThreeIn.stored3 (numV 2 (wrap64 (n - wrap64 (n' * floorI n n')))) hT4).1.2.2.1⟩

/-- A product, or null. -/
def MulV (a b m : Val) : Prop := m = Val.zero ∨ m = numV 2 (wrap64 (a.n * b.n))

set_option maxRecDepth 20000 in
set_option maxHeartbeats 2000000 in
theorem Tryz.mulV (a b : Val) (ha : a.s.size ≤ 9223372036854775807) (hb : b.s.size ≤ 9223372036854775807) (w : World) : Calls Tryz.prog 13 #[a.v, b.v] w fun e w' => ∃ m : Val, e = .returned m.v ∧ MulV a b m ∧ Below w.heap.size w w' := by
  have hT := ThreeIn.start w a b Val.zero
  have hf := field0
  obtain ⟨k, n, s⟩ := a
  obtain ⟨k', n', s'⟩ := b
  unfold Val.v valV
  go_enter Tryz.func13, Tryz.ntmps13
  go_wp2_with fail
  refine (Tryz.ints2 k n k' n' s s' ha hb _ _ (by unfold World.alloc; simp)).mono ?_
  rintro e w1 ⟨rfl, hb1⟩
  have hT1 := ThreeIn.next (a := ⟨k, n, s⟩) (b := ⟨k', n', s'⟩) (c := Val.zero) hT hb1
  clear hT hb1
  try clear c0 c1 c2 d0 d1 d2 f0 f1 f2 g0 g1 g2 x0 x1 x2 y0 y1 y2
  obtain ⟨⟨c0, c1, c2⟩, ⟨d0, d1, d2⟩, ⟨f0, f1, f2⟩, g0, g1, g2⟩ := hT1.1.cells
  obtain ⟨⟨x0, x1, x2⟩, y0, y1, y2⟩ := hT1.third
  cases hI : (intB ⟨k, n, s⟩ && intB ⟨k', n', s'⟩) with
  | false =>
    go_wp2_with fail
    exact bodyPost_ret (res_box Tryz.results13 rfl (ThreeIn.stored3 (Val.zero) hT1).2.1) rfl ⟨Val.zero, rfl, .inl rfl, (ThreeIn.stored3 (Val.zero) hT1).1.2.2.1⟩
  | true =>
    rw [Bool.and_eq_true] at hI
    have b1 := (int_fine hI.1).2.1
    have b2 := (int_fine hI.1).2.2.1
    have b3 := (int_fine hI.2).2.1
    have b4 := (int_fine hI.2).2.2.1
    dsimp only at b1 b2 b3 b4
    obtain ⟨hI1, hI2⟩ := hI
    have hT2 := hT1.drew
    go_wp2_with fail
    · rename_i hlt
      have hn0 : ¬ n = 0 := by omega
      have hx0 : (-n != 0) = true := by simp; omega
      refine wp_region_still_tail 12 tryz_mixed (by kernel_rfl) ?_
      change wpStill _ _ w1.drew _ _ _
      simp only [List.take_succ_cons, List.take_zero, List.drop_succ_cons, List.drop_zero]
      iterate 12 still_step
      refine wpStill_nil ?_
      change wpList _ _ _ _ _ _
      go_wp2_with fail
      · have hS := (ThreeIn.stored3 Val.zero hT1).drew
        exact bodyPost_ret (res_box Tryz.results13 rfl hS.2.1) rfl ⟨Val.zero, rfl, .inl rfl, hS.1.2.2.1⟩
      · have hS := (ThreeIn.stored3 Val.zero hT1).drew
        exact bodyPost_ret (res_box Tryz.results13 rfl hS.2.1) rfl ⟨Val.zero, rfl, .inl rfl, hS.1.2.2.1⟩
      all_goals
        refine (Tryz.number _ _ _).mono ?_
        rintro e w4 ⟨rfl, hb4⟩
        simp only [Val.v, valV]
        have hT4 := ThreeIn.next (a := ⟨k, n, s⟩) (b := ⟨k', n', s'⟩) (c := Val.zero) hT2 hb4
        clear hT2 hb4
        try clear c0 c1 c2 d0 d1 d2 f0 f1 f2 g0 g1 g2 x0 x1 x2 y0 y1 y2
        obtain ⟨⟨c0, c1, c2⟩, ⟨d0, d1, d2⟩, ⟨f0, f1, f2⟩, g0, g1, g2⟩ := hT4.1.cells
        obtain ⟨⟨x0, x1, x2⟩, y0, y1, y2⟩ := hT4.third
        go_wp2_with fail
        exact bodyPost_ret (res_box Tryz.results13 rfl (ThreeIn.stored3 (numV 2 (wrap64 (n * n'))) hT4).2.1) rfl ⟨numV 2 (wrap64 (n * n')), rfl, .inr rfl, (ThreeIn.stored3 (numV 2 (wrap64 (n * n'))) hT4).1.2.2.1⟩
    · rename_i hge
      by_cases hn0 : n = 0
      · subst hn0
        go_region
        go_wp2_with fail
        refine (Tryz.number _ _ _).mono ?_
        rintro e w4 ⟨rfl, hb4⟩
        simp only [Val.v, valV]
        have hT4 := ThreeIn.next (a := ⟨k, 0, s⟩) (b := ⟨k', n', s'⟩) (c := Val.zero) hT2 hb4
        clear hT2 hb4
        try clear c0 c1 c2 d0 d1 d2 f0 f1 f2 g0 g1 g2 x0 x1 x2 y0 y1 y2
        obtain ⟨⟨c0, c1, c2⟩, ⟨d0, d1, d2⟩, ⟨f0, f1, f2⟩, g0, g1, g2⟩ := hT4.1.cells
        obtain ⟨⟨x0, x1, x2⟩, y0, y1, y2⟩ := hT4.third
        go_wp2_with fail
        exact bodyPost_ret (res_box Tryz.results13 rfl (ThreeIn.stored3 (numV 2 0) hT4).2.1) rfl ⟨numV 2 0, rfl, .inr (by simp [wrap64]), (ThreeIn.stored3 (numV 2 0) hT4).1.2.2.1⟩
      · have hx0 : (n != 0) = true := by simpa using hn0
        refine wp_region_still_tail 12 tryz_mixed (by kernel_rfl) ?_
        change wpStill _ _ w1.drew _ _ _
        simp only [List.take_succ_cons, List.take_zero, List.drop_succ_cons, List.drop_zero]
        iterate 12 still_step
        refine wpStill_nil ?_
        change wpList _ _ _ _ _ _
        go_wp2_with fail
        · have hS := (ThreeIn.stored3 Val.zero hT1).drew
          exact bodyPost_ret (res_box Tryz.results13 rfl hS.2.1) rfl ⟨Val.zero, rfl, .inl rfl, hS.1.2.2.1⟩
        · have hS := (ThreeIn.stored3 Val.zero hT1).drew
          exact bodyPost_ret (res_box Tryz.results13 rfl hS.2.1) rfl ⟨Val.zero, rfl, .inl rfl, hS.1.2.2.1⟩
        all_goals
          refine (Tryz.number _ _ _).mono ?_
          rintro e w4 ⟨rfl, hb4⟩
          simp only [Val.v, valV]
          have hT4 := ThreeIn.next (a := ⟨k, n, s⟩) (b := ⟨k', n', s'⟩) (c := Val.zero) hT2 hb4
          clear hT2 hb4
          try clear c0 c1 c2 d0 d1 d2 f0 f1 f2 g0 g1 g2 x0 x1 x2 y0 y1 y2
          obtain ⟨⟨c0, c1, c2⟩, ⟨d0, d1, d2⟩, ⟨f0, f1, f2⟩, g0, g1, g2⟩ := hT4.1.cells
          obtain ⟨⟨x0, x1, x2⟩, y0, y1, y2⟩ := hT4.third
          go_wp2_with fail
          exact bodyPost_ret (res_box Tryz.results13 rfl (ThreeIn.stored3 (numV 2 (wrap64 (n * n'))) hT4).2.1) rfl ⟨numV 2 (wrap64 (n * n')), rfl, .inr rfl, (ThreeIn.stored3 (numV 2 (wrap64 (n * n'))) hT4).1.2.2.1⟩

end Go.Proofs
