/- Of package value: moments as texts, and back. No condition but what the library's variables hold. -/
import Derived.Test.YtmnlcldhhlkpeaaGreatDoorLit
import Derived.Test.YtmnlcldhhlkpeaaGreatDoorStrm
import Derived.Deep.RegionHeld3
import Derived.Deep.CutRange
namespace Go.Proofs
open Go.RowKit

/-- A moment's parts lie in a block. -/
structure DAt (w W : World) (g N : Nat) (n : Int) : Prop where
  blk : W.heap[g]? = some (.cells #[.int .i64 (dY n), .int .i64 (dM n + 1), .int .i64 (dD n), .int .i64 (hourP n), .int .i64 (minP n), .int .i64 (secP n)] 142)
  hb : Below w.heap.size w W
  lit : Lit N W
  le : N ≤ w.heap.size

theorem padB_size (n : Int) (k : Nat) (h0 : -9223372036854775808 ≤ n) (h1 : n ≤ 9223372036854775807) (hk : k ≤ 4) : (padB n k).size ≤ 30 := by
  have hl := Lib.itoa_length_le n h0 h1
  rw [Lib.size_eq]
  unfold padB padL
  simp only [List.length_append, Lib.repeatL_length, List.length_cons, List.length_nil]
  omega

theorem lt_of_block {W : World} {g : Nat} {o : Obj} (h : W.heap[g]? = some o) : g < W.heap.size := (Array.getElem?_eq_some_iff.1 h).1

theorem DAt.next {w W W' : World} {g N : Nat} {n : Int} (h : DAt w W g N n) (hb : Below W.heap.size W W') : DAt w W' g N n :=
  ⟨(hb.block _ (lt_of_block h.blk)).trans h.blk, h.hb.trans (hb.mono h.hb.size), h.lit.on (hb.mono (Nat.le_trans h.le h.hb.size)), h.le⟩

theorem DAt.drew {w W : World} {g N : Nat} {n : Int} (h : DAt w W g N n) : DAt w W.drew g N n := ⟨h.blk, h.hb.drew, h.lit.on (Below.refl _ _).drew, h.le⟩

theorem DAt.held {w W : World} {g N : Nat} {n : Int} (h : DAt w W g N n) :
    W.cell? ⟨g, 0, none⟩ = some (.int .i64 (dY n)) ∧ W.cell? ⟨g, 1, none⟩ = some (.int .i64 (dM n + 1)) ∧ W.cell? ⟨g, 2, none⟩ = some (.int .i64 (dD n)) ∧
    W.cell? ⟨g, 3, none⟩ = some (.int .i64 (hourP n)) ∧ W.cell? ⟨g, 4, none⟩ = some (.int .i64 (minP n)) ∧ W.cell? ⟨g, 5, none⟩ = some (.int .i64 (secP n)) ∧ DAt w W g N n := by
  refine ⟨?_, ?_, ?_, ?_, ?_, ?_, h⟩ <;> simp [World.cell?, h.blk]

set_option maxRecDepth 20000 in
set_option maxHeartbeats 2000000 in
theorem Tryz.dateText {N : Nat} (n : Int) (h0 : 0 ≤ n) (h1 : n ≤ 253402300799) (w : World) (hL : Lit N w) (hN : N ≤ w.heap.size) :
    Calls Tryz.prog 60 #[.int .i64 n] w fun e w' => e = .returned (.string (dtextB n)) ∧ Below w.heap.size w w' := by
  obtain ⟨y1, y2, m1, d1, d2, _⟩ := year_9999 h0 h1
  have hdl := mdays_le (dY n) (dM n + 1)
  have hh : 0 ≤ hourP n ∧ hourP n ≤ 23 := by unfold hourP; omega
  have hm : 0 ≤ minP n ∧ minP n ≤ 59 := by unfold minP; omega
  have hs : 0 ≤ secP n ∧ secP n ≤ 59 := by unfold secP; omega
  have hp0 : ∀ W, Lit N W → Calls Tryz.prog 94 #[.int .i64 (dY n), .int .i64 4] W fun e W' => e = .returned (.string (padB (dY n) 4)) ∧ Below W.heap.size W W' := fun W hW => Tryz.padded (dY n) 4 (by omega) (by omega) W hW
  have hp1 : ∀ W, Lit N W → Calls Tryz.prog 94 #[.int .i64 (dM n + 1), .int .i64 2] W fun e W' => e = .returned (.string (padB (dM n + 1) 2)) ∧ Below W.heap.size W W' := fun W hW => Tryz.padded (dM n + 1) 2 (by omega) (by omega) W hW
  have hp2 : ∀ W, Lit N W → Calls Tryz.prog 94 #[.int .i64 (dD n), .int .i64 2] W fun e W' => e = .returned (.string (padB (dD n) 2)) ∧ Below W.heap.size W W' := fun W hW => Tryz.padded (dD n) 2 (by omega) (by omega) W hW
  have hp3 : ∀ W, Lit N W → Calls Tryz.prog 94 #[.int .i64 (hourP n), .int .i64 2] W fun e W' => e = .returned (.string (padB (hourP n) 2)) ∧ Below W.heap.size W W' := fun W hW => Tryz.padded (hourP n) 2 (by omega) (by omega) W hW
  have hp4 : ∀ W, Lit N W → Calls Tryz.prog 94 #[.int .i64 (minP n), .int .i64 2] W fun e W' => e = .returned (.string (padB (minP n) 2)) ∧ Below W.heap.size W W' := fun W hW => Tryz.padded (minP n) 2 (by omega) (by omega) W hW
  have hp5 : ∀ W, Lit N W → Calls Tryz.prog 94 #[.int .i64 (secP n), .int .i64 2] W fun e W' => e = .returned (.string (padB (secP n) 2)) ∧ Below W.heap.size W W' := fun W hW => Tryz.padded (secP n) 2 (by omega) (by omega) W hW
  have hz0 := padB_size (dY n) 4 (by omega) (by omega) (by omega)
  have hz1 := padB_size (dM n + 1) 2 (by omega) (by omega) (by omega)
  have hz2 := padB_size (dD n) 2 (by omega) (by omega) (by omega)
  have hz3 := padB_size (hourP n) 2 (by omega) (by omega) (by omega)
  have hz4 := padB_size (minP n) 2 (by omega) (by omega) (by omega)
  have hz5 := padB_size (secP n) 2 (by omega) (by omega) (by omega)
  clear hh hm hs hdl y1 y2 m1 d1 d2
  go_enter Tryz.func60, Tryz.ntmps60
  go_upto_region 2 with (go_at_call 93; refine (Tryz.dateOf n h0 h1 _).mono ?_; rintro e w1 ⟨rfl, hb1⟩)
  have hD : DAt w (w1.alloc (.cells #[.int .i64 (dY n), .int .i64 (dM n + 1), .int .i64 (dD n), .int .i64 (hourP n), .int .i64 (minP n), .int .i64 (secP n)] 142)) w1.heap.size N n :=
    ⟨heap_alloc_new w1 _, hb1.alloc hb1.size _, hL.on ((hb1.alloc hb1.size _).mono hN), hN⟩
  generalize w1.heap.size = g at hD ⊢
  generalize w1.alloc (.cells #[.int .i64 (dY n), .int .i64 (dM n + 1), .int .i64 (dD n), .int .i64 (hourP n), .int .i64 (minP n), .int .i64 (secP n)] 142) = W at hD ⊢
  refine wp_region_held_drew (S := (fun w' => w'.cell? ⟨g, 0, none⟩ = some (.int .i64 (dY n)) ∧ w'.cell? ⟨g, 1, none⟩ = some (.int .i64 (dM n + 1)) ∧ w'.cell? ⟨g, 2, none⟩ = some (.int .i64 (dD n)) ∧ w'.cell? ⟨g, 3, none⟩ = some (.int .i64 (hourP n)) ∧ w'.cell? ⟨g, 4, none⟩ = some (.int .i64 (minP n)) ∧ w'.cell? ⟨g, 5, none⟩ = some (.int .i64 (secP n)) ∧ DAt w w' g N n)) (by kernel_rfl) (by exact hD.drew.held) (fun hHeld => ?_)
  replace hD := hD.drew
  generalize World.drew W = W0 at hD hHeld ⊢
  refine wpAnyH_take (i := 0) (oi := ?dt1o) (v := .pointer (some ⟨g, 0, none⟩)) ?dt1h (by kernel_rfl) (by kernel_rfl) (by kernel_rfl) ?dt1q (Or.inl ⟨?dt1w, ?dt1y⟩) (by assumption) ?dt1r
  case dt1h => rw [List.getElem?_toArray]; rfl
  case dt1q => exact fun _ _ _ h => h
  case dt1w => rfl
  case dt1y =>
    intro w hSw
    go_simp
  simp only [Act.put, List.setIfInBounds_toArray, List.set_cons_zero, List.set_cons_succ]
  refine wpAnyH_take (i := 1) (oi := ?dt2o) (v := .int .i64 (dY n)) ?dt2h (by kernel_rfl) (by kernel_rfl) (by kernel_rfl) ?dt2q (Or.inl ⟨?dt2w, ?dt2y⟩) (by assumption) ?dt2r
  case dt2h => rw [List.getElem?_toArray]; rfl
  case dt2q => exact fun _ _ _ h => h
  case dt2w => rfl
  case dt2y =>
    intro w hSw
    go_simp
  simp only [Act.put, List.setIfInBounds_toArray, List.set_cons_zero, List.set_cons_succ]
  refine wpAnyH_take (i := 4) (oi := ?dt3o) (v := .pointer (some ⟨g, 1, none⟩)) ?dt3h (by kernel_rfl) (by kernel_rfl) (by kernel_rfl) ?dt3q (Or.inl ⟨?dt3w, ?dt3y⟩) (by assumption) ?dt3r
  case dt3h => rw [List.getElem?_toArray]; rfl
  case dt3q => exact fun _ _ _ h => h
  case dt3w => rfl
  case dt3y =>
    intro w hSw
    go_simp
  simp only [Act.put, List.setIfInBounds_toArray, List.set_cons_zero, List.set_cons_succ]
  refine wpAnyH_take (i := 5) (oi := ?dt4o) (v := .int .i64 (dM n + 1)) ?dt4h (by kernel_rfl) (by kernel_rfl) (by kernel_rfl) ?dt4q (Or.inl ⟨?dt4w, ?dt4y⟩) (by assumption) ?dt4r
  case dt4h => rw [List.getElem?_toArray]; rfl
  case dt4q => exact fun _ _ _ h => h
  case dt4w => rfl
  case dt4y =>
    intro w hSw
    go_simp
  simp only [Act.put, List.setIfInBounds_toArray, List.set_cons_zero, List.set_cons_succ]
  refine wpAnyH_take (i := 9) (oi := ?dt5o) (v := .pointer (some ⟨g, 2, none⟩)) ?dt5h (by kernel_rfl) (by kernel_rfl) (by kernel_rfl) ?dt5q (Or.inl ⟨?dt5w, ?dt5y⟩) (by assumption) ?dt5r
  case dt5h => rw [List.getElem?_toArray]; rfl
  case dt5q => exact fun _ _ _ h => h
  case dt5w => rfl
  case dt5y =>
    intro w hSw
    go_simp
  simp only [Act.put, List.setIfInBounds_toArray, List.set_cons_zero, List.set_cons_succ]
  refine wpAnyH_take (i := 10) (oi := ?dt6o) (v := .int .i64 (dD n)) ?dt6h (by kernel_rfl) (by kernel_rfl) (by kernel_rfl) ?dt6q (Or.inl ⟨?dt6w, ?dt6y⟩) (by assumption) ?dt6r
  case dt6h => rw [List.getElem?_toArray]; rfl
  case dt6q => exact fun _ _ _ h => h
  case dt6w => rfl
  case dt6y =>
    intro w hSw
    go_simp
  simp only [Act.put, List.setIfInBounds_toArray, List.set_cons_zero, List.set_cons_succ]
  refine wpAnyH_take (i := 14) (oi := ?dt7o) (v := .pointer (some ⟨g, 3, none⟩)) ?dt7h (by kernel_rfl) (by kernel_rfl) (by kernel_rfl) ?dt7q (Or.inl ⟨?dt7w, ?dt7y⟩) (by assumption) ?dt7r
  case dt7h => rw [List.getElem?_toArray]; rfl
  case dt7q => exact fun _ _ _ h => h
  case dt7w => rfl
  case dt7y =>
    intro w hSw
    go_simp
  simp only [Act.put, List.setIfInBounds_toArray, List.set_cons_zero, List.set_cons_succ]
  refine wpAnyH_take (i := 15) (oi := ?dt8o) (v := .int .i64 (hourP n)) ?dt8h (by kernel_rfl) (by kernel_rfl) (by kernel_rfl) ?dt8q (Or.inl ⟨?dt8w, ?dt8y⟩) (by assumption) ?dt8r
  case dt8h => rw [List.getElem?_toArray]; rfl
  case dt8q => exact fun _ _ _ h => h
  case dt8w => rfl
  case dt8y =>
    intro w hSw
    go_simp
  simp only [Act.put, List.setIfInBounds_toArray, List.set_cons_zero, List.set_cons_succ]
  refine wpAnyH_take (i := 19) (oi := ?dt9o) (v := .pointer (some ⟨g, 4, none⟩)) ?dt9h (by kernel_rfl) (by kernel_rfl) (by kernel_rfl) ?dt9q (Or.inl ⟨?dt9w, ?dt9y⟩) (by assumption) ?dt9r
  case dt9h => rw [List.getElem?_toArray]; rfl
  case dt9q => exact fun _ _ _ h => h
  case dt9w => rfl
  case dt9y =>
    intro w hSw
    go_simp
  simp only [Act.put, List.setIfInBounds_toArray, List.set_cons_zero, List.set_cons_succ]
  refine wpAnyH_take (i := 20) (oi := ?dt10o) (v := .int .i64 (minP n)) ?dt10h (by kernel_rfl) (by kernel_rfl) (by kernel_rfl) ?dt10q (Or.inl ⟨?dt10w, ?dt10y⟩) (by assumption) ?dt10r
  case dt10h => rw [List.getElem?_toArray]; rfl
  case dt10q => exact fun _ _ _ h => h
  case dt10w => rfl
  case dt10y =>
    intro w hSw
    go_simp
  simp only [Act.put, List.setIfInBounds_toArray, List.set_cons_zero, List.set_cons_succ]
  refine wpAnyH_take (i := 24) (oi := ?dt11o) (v := .pointer (some ⟨g, 5, none⟩)) ?dt11h (by kernel_rfl) (by kernel_rfl) (by kernel_rfl) ?dt11q (Or.inl ⟨?dt11w, ?dt11y⟩) (by assumption) ?dt11r
  case dt11h => rw [List.getElem?_toArray]; rfl
  case dt11q => exact fun _ _ _ h => h
  case dt11w => rfl
  case dt11y =>
    intro w hSw
    go_simp
  simp only [Act.put, List.setIfInBounds_toArray, List.set_cons_zero, List.set_cons_succ]
  refine wpAnyH_take (i := 25) (oi := ?dt12o) (v := .int .i64 (secP n)) ?dt12h (by kernel_rfl) (by kernel_rfl) (by kernel_rfl) ?dt12q (Or.inl ⟨?dt12w, ?dt12y⟩) (by assumption) ?dt12r
  case dt12h => rw [List.getElem?_toArray]; rfl
  case dt12q => exact fun _ _ _ h => h
  case dt12w => rfl
  case dt12y =>
    intro w hSw
    go_simp
  simp only [Act.put, List.setIfInBounds_toArray, List.set_cons_zero, List.set_cons_succ]
  refine wpAnyH_ready (rs := [2]) (by kernel_rfl) (by simp) ?_
  refine AllReadyH.cons (o := ?db13o) ?db13h (fun K hK => ?db13s) AllReadyH.nil
  case db13h => rw [List.getElem?_toArray]; rfl
  go_simp
  with_reducible refine Calls.mono (hp0 _ hD.lit) ?_
  rintro e dw14 ⟨rfl, hb1⟩
  go_wp2_with fail
  refine hK.out _ _ ((hD.next hb1).held) (fun hHeld => ?_)
  replace hD := hD.next hb1
  clear hK K hb1
  try simp only [Act.put, List.setIfInBounds_toArray, List.set_cons_zero, List.set_cons_succ]
  refine wpAnyH_take (i := 3) (oi := ?dt15o) (v := .string (padB (dY n) 4 ++ ⟨#[45]⟩)) ?dt15h (by kernel_rfl) (by kernel_rfl) (by kernel_rfl) ?dt15q (Or.inl ⟨?dt15w, ?dt15y⟩) (by assumption) ?dt15r
  case dt15h => rw [List.getElem?_toArray]; rfl
  case dt15q => exact fun _ _ _ h => h
  case dt15w => rfl
  case dt15y =>
    intro w hSw
    go_simp
    omega
  simp only [Act.put, List.setIfInBounds_toArray, List.set_cons_zero, List.set_cons_succ]
  refine wpAnyH_ready (rs := [6]) (by kernel_rfl) (by simp) ?_
  refine AllReadyH.cons (o := ?db16o) ?db16h (fun K hK => ?db16s) AllReadyH.nil
  case db16h => rw [List.getElem?_toArray]; rfl
  go_simp
  with_reducible refine Calls.mono (hp1 _ hD.lit) ?_
  rintro e dw17 ⟨rfl, hb1⟩
  go_wp2_with fail
  refine hK.out _ _ ((hD.next hb1).held) (fun hHeld => ?_)
  replace hD := hD.next hb1
  clear hK K hb1
  try simp only [Act.put, List.setIfInBounds_toArray, List.set_cons_zero, List.set_cons_succ]
  refine wpAnyH_take (i := 7) (oi := ?dt18o) (v := .string (padB (dY n) 4 ++ ⟨#[45]⟩ ++ padB (dM n + 1) 2)) ?dt18h (by kernel_rfl) (by kernel_rfl) (by kernel_rfl) ?dt18q (Or.inl ⟨?dt18w, ?dt18y⟩) (by assumption) ?dt18r
  case dt18h => rw [List.getElem?_toArray]; rfl
  case dt18q => exact fun _ _ _ h => h
  case dt18w => rfl
  case dt18y =>
    intro w hSw
    go_simp
    omega
  simp only [Act.put, List.setIfInBounds_toArray, List.set_cons_zero, List.set_cons_succ]
  refine wpAnyH_take (i := 8) (oi := ?dt19o) (v := .string (padB (dY n) 4 ++ ⟨#[45]⟩ ++ padB (dM n + 1) 2 ++ ⟨#[45]⟩)) ?dt19h (by kernel_rfl) (by kernel_rfl) (by kernel_rfl) ?dt19q (Or.inl ⟨?dt19w, ?dt19y⟩) (by assumption) ?dt19r
  case dt19h => rw [List.getElem?_toArray]; rfl
  case dt19q => exact fun _ _ _ h => h
  case dt19w => rfl
  case dt19y =>
    intro w hSw
    go_simp
    omega
  simp only [Act.put, List.setIfInBounds_toArray, List.set_cons_zero, List.set_cons_succ]
  refine wpAnyH_ready (rs := [11]) (by kernel_rfl) (by simp) ?_
  refine AllReadyH.cons (o := ?db20o) ?db20h (fun K hK => ?db20s) AllReadyH.nil
  case db20h => rw [List.getElem?_toArray]; rfl
  go_simp
  with_reducible refine Calls.mono (hp2 _ hD.lit) ?_
  rintro e dw21 ⟨rfl, hb1⟩
  go_wp2_with fail
  refine hK.out _ _ ((hD.next hb1).held) (fun hHeld => ?_)
  replace hD := hD.next hb1
  clear hK K hb1
  try simp only [Act.put, List.setIfInBounds_toArray, List.set_cons_zero, List.set_cons_succ]
  refine wpAnyH_take (i := 12) (oi := ?dt22o) (v := .string (padB (dY n) 4 ++ ⟨#[45]⟩ ++ padB (dM n + 1) 2 ++ ⟨#[45]⟩ ++ padB (dD n) 2)) ?dt22h (by kernel_rfl) (by kernel_rfl) (by kernel_rfl) ?dt22q (Or.inl ⟨?dt22w, ?dt22y⟩) (by assumption) ?dt22r
  case dt22h => rw [List.getElem?_toArray]; rfl
  case dt22q => exact fun _ _ _ h => h
  case dt22w => rfl
  case dt22y =>
    intro w hSw
    go_simp
    omega
  simp only [Act.put, List.setIfInBounds_toArray, List.set_cons_zero, List.set_cons_succ]
  refine wpAnyH_take (i := 13) (oi := ?dt23o) (v := .string (padB (dY n) 4 ++ ⟨#[45]⟩ ++ padB (dM n + 1) 2 ++ ⟨#[45]⟩ ++ padB (dD n) 2 ++ ⟨#[84]⟩)) ?dt23h (by kernel_rfl) (by kernel_rfl) (by kernel_rfl) ?dt23q (Or.inl ⟨?dt23w, ?dt23y⟩) (by assumption) ?dt23r
  case dt23h => rw [List.getElem?_toArray]; rfl
  case dt23q => exact fun _ _ _ h => h
  case dt23w => rfl
  case dt23y =>
    intro w hSw
    go_simp
    omega
  simp only [Act.put, List.setIfInBounds_toArray, List.set_cons_zero, List.set_cons_succ]
  refine wpAnyH_ready (rs := [16]) (by kernel_rfl) (by simp) ?_
  refine AllReadyH.cons (o := ?db24o) ?db24h (fun K hK => ?db24s) AllReadyH.nil
  case db24h => rw [List.getElem?_toArray]; rfl
  go_simp
  with_reducible refine Calls.mono (hp3 _ hD.lit) ?_
  rintro e dw25 ⟨rfl, hb1⟩
  go_wp2_with fail
  refine hK.out _ _ ((hD.next hb1).held) (fun hHeld => ?_)
  replace hD := hD.next hb1
  clear hK K hb1
  try simp only [Act.put, List.setIfInBounds_toArray, List.set_cons_zero, List.set_cons_succ]
  refine wpAnyH_take (i := 17) (oi := ?dt26o) (v := .string (padB (dY n) 4 ++ ⟨#[45]⟩ ++ padB (dM n + 1) 2 ++ ⟨#[45]⟩ ++ padB (dD n) 2 ++ ⟨#[84]⟩ ++ padB (hourP n) 2)) ?dt26h (by kernel_rfl) (by kernel_rfl) (by kernel_rfl) ?dt26q (Or.inl ⟨?dt26w, ?dt26y⟩) (by assumption) ?dt26r
  case dt26h => rw [List.getElem?_toArray]; rfl
  case dt26q => exact fun _ _ _ h => h
  case dt26w => rfl
  case dt26y =>
    intro w hSw
    go_simp
    omega
  simp only [Act.put, List.setIfInBounds_toArray, List.set_cons_zero, List.set_cons_succ]
  refine wpAnyH_take (i := 18) (oi := ?dt27o) (v := .string (padB (dY n) 4 ++ ⟨#[45]⟩ ++ padB (dM n + 1) 2 ++ ⟨#[45]⟩ ++ padB (dD n) 2 ++ ⟨#[84]⟩ ++ padB (hourP n) 2 ++ ⟨#[58]⟩)) ?dt27h (by kernel_rfl) (by kernel_rfl) (by kernel_rfl) ?dt27q (Or.inl ⟨?dt27w, ?dt27y⟩) (by assumption) ?dt27r
  case dt27h => rw [List.getElem?_toArray]; rfl
  case dt27q => exact fun _ _ _ h => h
  case dt27w => rfl
  case dt27y =>
    intro w hSw
    go_simp
    omega
  simp only [Act.put, List.setIfInBounds_toArray, List.set_cons_zero, List.set_cons_succ]
  refine wpAnyH_ready (rs := [21]) (by kernel_rfl) (by simp) ?_
  refine AllReadyH.cons (o := ?db28o) ?db28h (fun K hK => ?db28s) AllReadyH.nil
  case db28h => rw [List.getElem?_toArray]; rfl
  go_simp
  with_reducible refine Calls.mono (hp4 _ hD.lit) ?_
  rintro e dw29 ⟨rfl, hb1⟩
  go_wp2_with fail
  refine hK.out _ _ ((hD.next hb1).held) (fun hHeld => ?_)
  replace hD := hD.next hb1
  clear hK K hb1
  try simp only [Act.put, List.setIfInBounds_toArray, List.set_cons_zero, List.set_cons_succ]
  refine wpAnyH_take (i := 22) (oi := ?dt30o) (v := .string (padB (dY n) 4 ++ ⟨#[45]⟩ ++ padB (dM n + 1) 2 ++ ⟨#[45]⟩ ++ padB (dD n) 2 ++ ⟨#[84]⟩ ++ padB (hourP n) 2 ++ ⟨#[58]⟩ ++ padB (minP n) 2)) ?dt30h (by kernel_rfl) (by kernel_rfl) (by kernel_rfl) ?dt30q (Or.inl ⟨?dt30w, ?dt30y⟩) (by assumption) ?dt30r
  case dt30h => rw [List.getElem?_toArray]; rfl
  case dt30q => exact fun _ _ _ h => h
  case dt30w => rfl
  case dt30y =>
    intro w hSw
    go_simp
    omega
  simp only [Act.put, List.setIfInBounds_toArray, List.set_cons_zero, List.set_cons_succ]
  refine wpAnyH_take (i := 23) (oi := ?dt31o) (v := .string (padB (dY n) 4 ++ ⟨#[45]⟩ ++ padB (dM n + 1) 2 ++ ⟨#[45]⟩ ++ padB (dD n) 2 ++ ⟨#[84]⟩ ++ padB (hourP n) 2 ++ ⟨#[58]⟩ ++ padB (minP n) 2 ++ ⟨#[58]⟩)) ?dt31h (by kernel_rfl) (by kernel_rfl) (by kernel_rfl) ?dt31q (Or.inl ⟨?dt31w, ?dt31y⟩) (by assumption) ?dt31r
  case dt31h => rw [List.getElem?_toArray]; rfl
  case dt31q => exact fun _ _ _ h => h
  case dt31w => rfl
  case dt31y =>
    intro w hSw
    go_simp
    omega
  simp only [Act.put, List.setIfInBounds_toArray, List.set_cons_zero, List.set_cons_succ]
  refine wpAnyH_ready (rs := [26]) (by kernel_rfl) (by simp) ?_
  refine AllReadyH.cons (o := ?db32o) ?db32h (fun K hK => ?db32s) AllReadyH.nil
  case db32h => rw [List.getElem?_toArray]; rfl
  go_simp
  with_reducible refine Calls.mono (hp5 _ hD.lit) ?_
  rintro e dw33 ⟨rfl, hb1⟩
  go_wp2_with fail
  refine hK.out _ _ ((hD.next hb1).held) (fun hHeld => ?_)
  replace hD := hD.next hb1
  clear hK K hb1
  try simp only [Act.put, List.setIfInBounds_toArray, List.set_cons_zero, List.set_cons_succ]
  refine wpAnyH_take (i := 27) (oi := ?dt34o) (v := .string (padB (dY n) 4 ++ ⟨#[45]⟩ ++ padB (dM n + 1) 2 ++ ⟨#[45]⟩ ++ padB (dD n) 2 ++ ⟨#[84]⟩ ++ padB (hourP n) 2 ++ ⟨#[58]⟩ ++ padB (minP n) 2 ++ ⟨#[58]⟩ ++ padB (secP n) 2)) ?dt34h (by kernel_rfl) (by kernel_rfl) (by kernel_rfl) ?dt34q (Or.inl ⟨?dt34w, ?dt34y⟩) (by assumption) ?dt34r
  case dt34h => rw [List.getElem?_toArray]; rfl
  case dt34q => exact fun _ _ _ h => h
  case dt34w => rfl
  case dt34y =>
    intro w hSw
    go_simp
    omega
  simp only [Act.put, List.setIfInBounds_toArray, List.set_cons_zero, List.set_cons_succ]
  refine wpAnyH_take (i := 28) (oi := ?dt35o) (v := .string (padB (dY n) 4 ++ ⟨#[45]⟩ ++ padB (dM n + 1) 2 ++ ⟨#[45]⟩ ++ padB (dD n) 2 ++ ⟨#[84]⟩ ++ padB (hourP n) 2 ++ ⟨#[58]⟩ ++ padB (minP n) 2 ++ ⟨#[58]⟩ ++ padB (secP n) 2)) ?dt35h (by kernel_rfl) (by kernel_rfl) (by kernel_rfl) ?dt35q (Or.inl ⟨?dt35w, ?dt35y⟩) (by assumption) ?dt35r
  case dt35h => rw [List.getElem?_toArray]; rfl
  case dt35q => exact fun _ _ _ h => h
  case dt35w => rfl
  case dt35y =>
    intro w hSw
    go_simp
  simp only [Act.put, List.setIfInBounds_toArray, List.set_cons_zero, List.set_cons_succ]
  refine wpAnyH_done (by kernel_rfl) ?_ _
  go_wp2_with fail
  go_ret
  exact ⟨rfl, hD.hb⟩

/-- A value's box that the call has made. -/
structure BoxAt (w W : World) (g : Nat) (x : Val) : Prop where
  at' : W.heap[g]? = some (.cells #[.int .i64 x.k, .int .i64 x.n, .string x.s] 23)
  ge : w.heap.size ≤ g
  hb : Below w.heap.size w W

theorem BoxAt.new {w W : World} (x : Val) (h : Below w.heap.size w W) : BoxAt w (W.alloc (.cells #[.int .i64 x.k, .int .i64 x.n, .string x.s] 23)) W.heap.size x :=
  ⟨heap_alloc_new _ _, h.size, h.alloc h.size _⟩

theorem BoxAt.next {w W W' : World} {g : Nat} {x : Val} (h : BoxAt w W g x) (hb : Below W.heap.size W W') : BoxAt w W' g x :=
  ⟨(hb.block _ (lt_of_block h.at')).trans h.at', h.ge, h.hb.trans (hb.mono h.hb.size)⟩

theorem BoxAt.alloc {w W : World} {g : Nat} {x : Val} (h : BoxAt w W g x) (o : Obj) : BoxAt w (W.alloc o) g x := h.next ((Below.refl _ _).alloc (Nat.le_refl _) o)

theorem BoxAt.cells {w W : World} {g : Nat} {x : Val} (h : BoxAt w W g x) :
    (W.cell? ⟨g, 0, none⟩ = some (.int .i64 x.k) ∧ W.cell? ⟨g, 1, none⟩ = some (.int .i64 x.n) ∧ W.cell? ⟨g, 2, none⟩ = some (.string x.s)) ∧
    (W.frozen? ⟨g, 0, none⟩ = false ∧ W.frozen? ⟨g, 1, none⟩ = false ∧ W.frozen? ⟨g, 2, none⟩ = false) := by
  refine ⟨⟨?_, ?_, ?_⟩, ?_, ?_, ?_⟩ <;> simp [World.cell?, World.frozen?, h.at']

theorem BoxAt.set {w W : World} {g : Nat} {x : Val} (y : Val) (h : BoxAt w W g x) : BoxAt w (((W.setCell ⟨g, 0, none⟩ (.int .i64 y.k)).setCell ⟨g, 1, none⟩ (.int .i64 y.n)).setCell ⟨g, 2, none⟩ (.string y.s)) g y :=
  ⟨set3_block y h.at', h.ge, set3_below h.hb h.ge⟩

theorem BoxAt.other {w W : World} {g g' : Nat} {x z : Val} (y : Val) (h : BoxAt w W g x) (h' : BoxAt w W g' z) (hne : g' ≠ g) : BoxAt w (((W.setCell ⟨g', 0, none⟩ (.int .i64 y.k)).setCell ⟨g', 1, none⟩ (.int .i64 y.n)).setCell ⟨g', 2, none⟩ (.string y.s)) g x :=
  ⟨by rw [block_set_ne hne, block_set_ne hne, block_set_ne hne]; exact h.at', h.ge, set3_below h.hb h'.ge⟩

theorem BoxAt.lit {w W : World} {g N : Nat} {x : Val} (h : BoxAt w W g x) (hL : Lit N w) (hN : N ≤ w.heap.size) : Lit N W ∧ N ≤ W.heap.size :=
  ⟨hL.on (h.hb.mono hN), Nat.le_trans hN h.hb.size⟩

end Go.Proofs
