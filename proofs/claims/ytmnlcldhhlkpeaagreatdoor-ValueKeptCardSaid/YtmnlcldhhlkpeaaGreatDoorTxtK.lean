/- Of package dumbmake: full values out of a stream are right. No condition but what the library's variables hold. -/
import Derived.Test.YtmnlcldhhlkpeaaGreatDoorTxt
namespace Go.Proofs
open Go.RowKit

theorem row4P {W : World} {b k : Nat} (h : W.heap[b]? = some (.cells #[.string ⟨#[97]⟩, .string ⟨#[39]⟩, .string ⟨#[92]⟩, .string ⟨#[37]⟩] 9)) (hk : k < 4) : ∃ t : ByteArray, (t.size = 1 ∧ printB t = true) ∧ W.cell? ⟨b, k, none⟩ = some (.string t) := by
  rcases (show k = 0 ∨ k = 1 ∨ k = 2 ∨ k = 3 by omega) with rfl | rfl | rfl | rfl
  all_goals
    refine ⟨_, ?_, by simp [World.cell?, h]; rfl⟩
    exact ⟨rfl, by decide⟩

theorem row17P {W : World} {b k : Nat} (h : W.heap[b]? = some (.cells #[.string ⟨#[97]⟩, .string ⟨#[98]⟩, .string ⟨#[97, 98]⟩, .string ⟨#[]⟩, .string ⟨#[65]⟩, .string ⟨#[37]⟩, .string ⟨#[95]⟩, .string ⟨#[92]⟩, .string ⟨#[39]⟩, .string ⟨#[32]⟩, .string ⟨#[48]⟩, .string ⟨#[49, 50]⟩, .string ⟨#[45, 51]⟩, .string ⟨#[116, 114, 117, 101]⟩, .string ⟨#[120, 44, 121]⟩, .string ⟨#[40]⟩, .string ⟨#[50, 48, 48, 48, 45, 48, 50, 45, 50, 57, 84, 48, 48, 58, 48, 48, 58, 48, 48]⟩] 9)) (hk : k < 17) : ∃ t : ByteArray, (t.size ≤ 19 ∧ printB t = true) ∧ W.cell? ⟨b, k, none⟩ = some (.string t) := by
  rcases (show k = 0 ∨ k = 1 ∨ k = 2 ∨ k = 3 ∨ k = 4 ∨ k = 5 ∨ k = 6 ∨ k = 7 ∨ k = 8 ∨ k = 9 ∨ k = 10 ∨ k = 11 ∨ k = 12 ∨ k = 13 ∨ k = 14 ∨ k = 15 ∨ k = 16 by omega) with rfl | rfl | rfl | rfl | rfl | rfl | rfl | rfl | rfl | rfl | rfl | rfl | rfl | rfl | rfl | rfl | rfl
  all_goals
    refine ⟨_, ?_, by simp [World.cell?, h]; rfl⟩
    exact ⟨by decide, by decide⟩

theorem rep_print (t : ByteArray) (q : Int) (h : t.size = 1 ∧ printB t = true) (hq : q ≤ 101) : (⟨(Lib.repeatL t.data.toList q.toNat).toArray⟩ : ByteArray).size ≤ 1000 ∧ printB ⟨(Lib.repeatL t.data.toList q.toNat).toArray⟩ = true := by
  refine ⟨rep_size t q h.1 hq, ?_⟩
  have key : ∀ n : Nat, (Lib.repeatL t.data.toList n).all printC = true := by
    intro n
    induction n with
    | zero => rfl
    | succ n ih =>
      unfold Lib.repeatL
      rw [List.all_append, ih, Bool.and_true]
      exact h.2
  exact key _

theorem print_append {s t : ByteArray} (h : printB s = true) (h' : printB t = true) : printB (s ++ t) = true := by
  unfold printB at *
  simp only [ByteArray.data_append, Array.toList_append, List.all_append, h, h', Bool.and_self]

theorem print_take {s : ByteArray} (h : printB s = true) (n : Nat) : printB (s.extract 0 n) = true := by
  unfold printB at *
  rw [← ByteArray.toList_eq, Lib.extract_toList, List.all_eq_true]
  rw [List.all_eq_true] at h
  exact fun x hx => h x (List.mem_of_mem_drop (List.mem_of_mem_take hx))

theorem fine1 {n : Int} (h0 : 0 ≤ n) (h1 : n ≤ 1) : Val.fine ⟨1, n, ⟨#[]⟩⟩ = true := by
  have h2 : (⟨#[]⟩ : ByteArray).size = 0 := rfl
  unfold Val.fine formB rangeB inB
  simp [h2, h0, h1]

theorem fine2 {n : Int} (h0 : -999999999999999 ≤ n) (h1 : n ≤ 999999999999999) : Val.fine ⟨2, n, ⟨#[]⟩⟩ = true := by
  rw [num2_fine]
  simp [h0, h1]

theorem fine3 {s : ByteArray} (h0 : s.size ≤ 100) (h1 : printB s = true) : Val.fine ⟨3, 0, s⟩ = true := by
  unfold Val.fine formB rangeB
  have : (s.size : Int) ≤ 100 := by omega
  simp [this, h1]

theorem fine4 {n : Int} (h0 : 0 ≤ n) (h1 : n ≤ 253402300799) : Val.fine ⟨4, n, ⟨#[]⟩⟩ = true := by
  have h2 : (⟨#[]⟩ : ByteArray).size = 0 := rfl
  unfold Val.fine formB rangeB inB
  simp [h2, h0, h1]

set_option maxRecDepth 20000 in
set_option maxHeartbeats 4000000 in
theorem Tryz.textP {w : World} {g N : Nat} {ad : Option Addr} {zs : List Int} {cap : Nat} {a : Int} (h : Live w g N ad zs cap a) (ha : a < 100000) :
    Calls Tryz.prog 42 #[.pointer (some ⟨g, 0, none⟩)] w fun e w' => ∃ (s : ByteArray) (b : Int), (s.size ≤ 1000 ∧ printB s = true) ∧ b ≤ a + 6 ∧ e = .returned (.string s) ∧ Live w' g N ad zs cap b ∧ Turns g w w' := by
  go_enter Tryz.func42, Tryz.ntmps42
  go_wp2_with fail
  refine (Tryz.flipL h (by omega) _ (by omega) (by omega)).mono ?_
  rintro e w1 ⟨fl, rfl, hV, hT⟩
  cases fl with
  | true =>
    go_wp2_with fail
    refine wp_region_held_drew (S := fun _ => True) (by kernel_rfl) trivial (fun hHeld => ?_)
    replace hV := hV.drew
    replace hT := hT.drew
    generalize World.drew w1 = W0 at hV hT ⊢
    refine wpAnyH_take (i := 1) (oi := ?et1o) (v := .pointer (some ⟨g, 0, none⟩)) ?et1h (by kernel_rfl) (by kernel_rfl) (by kernel_rfl) ?et1q (Or.inl ⟨?et1w, ?et1y⟩) (by assumption) ?et1r
    case et1h => rw [List.getElem?_toArray]; rfl
    case et1q => exact fun _ _ _ h => h
    case et1w => rfl
    case et1y =>
      intro w hSw
      go_simp
    simp only [Act.put, List.setIfInBounds_toArray, List.set_cons_zero, List.set_cons_succ]
    refine wpAnyH_take (i := 5) (oi := ?et2o) (v := .pointer (some ⟨g, 0, none⟩)) ?et2h (by kernel_rfl) (by kernel_rfl) (by kernel_rfl) ?et2q (Or.inl ⟨?et2w, ?et2y⟩) (by assumption) ?et2r
    case et2h => rw [List.getElem?_toArray]; rfl
    case et2q => exact fun _ _ _ h => h
    case et2w => rfl
    case et2y =>
      intro w hSw
      go_simp
    simp only [Act.put, List.setIfInBounds_toArray, List.set_cons_zero, List.set_cons_succ]
    refine wpAnyH_ready (rs := [0, 2, 6]) (by kernel_rfl) (by simp) ?_
    refine AllReadyH.cons (o := ?eb3o) ?eb3h (fun K hK => ?eb3s) (AllReadyH.cons (o := ?eb4o) ?eb4h (fun K hK => ?eb4s) (AllReadyH.cons (o := ?eb5o) ?eb5h (fun K hK => ?eb5s) AllReadyH.nil))
    case eb3h => rw [List.getElem?_toArray]; rfl
    case eb4h => rw [List.getElem?_toArray]; rfl
    case eb5h => rw [List.getElem?_toArray]; rfl
    case eb3s =>
      go_simp
      refine hK.out _ _ trivial (fun hHeld => ?_)
      clear hK K
      have hA := heap_alloc_new W0 (.cells #[.string ⟨#[97]⟩, .string ⟨#[39]⟩, .string ⟨#[92]⟩, .string ⟨#[37]⟩] 9)
      have hAg : W0.heap.size ≠ g := Ne.symm (Nat.ne_of_lt hV.lt)
      replace hT := hT.trans (Turns.new (.cells #[.string ⟨#[97]⟩, .string ⟨#[39]⟩, .string ⟨#[92]⟩, .string ⟨#[37]⟩] 9) (Nat.le_of_lt hV.lt))
      replace hV := hV.alloc (.cells #[.string ⟨#[97]⟩, .string ⟨#[39]⟩, .string ⟨#[92]⟩, .string ⟨#[37]⟩] 9)
      try simp only [Act.put, List.setIfInBounds_toArray, List.set_cons_zero, List.set_cons_succ]
      generalize (World.heap W0).size = gA at hA hAg ⊢
      generalize World.alloc W0 (.cells #[.string ⟨#[97]⟩, .string ⟨#[39]⟩, .string ⟨#[92]⟩, .string ⟨#[37]⟩] 9) = ew6 at hV hT hA  ⊢
      refine wpAnyH_ready (rs := [2, 6]) (by kernel_rfl) (by simp) ?_
      refine AllReadyH.cons (o := ?eb7o) ?eb7h (fun K hK => ?eb7s) (AllReadyH.cons (o := ?eb8o) ?eb8h (fun K hK => ?eb8s) AllReadyH.nil)
      case eb7h => rw [List.getElem?_toArray]; rfl
      case eb8h => rw [List.getElem?_toArray]; rfl
      case eb7s =>
        go_simp
        with_reducible refine Calls.mono (Tryz.nextL hV (by omega) _ (by omega) (by omega)) ?_
        rintro e ew9 ⟨r, hr1, hr2, rfl, hV2, hT2⟩
        obtain ⟨k, rfl⟩ := Int.eq_ofNat_of_zero_le hr1
        have hk : k < 4 := by omega
        clear hr1 hr2
        go_wp2_with fail
        refine hK.out _ _ trivial (fun hHeld => ?_)
        clear hK K
        replace hA := hT2.block hA hAg
        replace hT := hT.trans hT2
        replace hV := hV2
        clear hT2 hV2
        try simp only [Act.put, List.setIfInBounds_toArray, List.set_cons_zero, List.set_cons_succ]
        refine wpAnyH_take (i := 3) (oi := ?et10o) (v := .pointer (some ⟨gA, k, none⟩)) ?et10h (by kernel_rfl) (by kernel_rfl) (by kernel_rfl) ?et10q (Or.inl ⟨?et10w, ?et10y⟩) (by assumption) ?et10r
        case et10h => rw [List.getElem?_toArray]; rfl
        case et10q => exact fun _ _ _ h => h
        case et10w => rfl
        case et10y =>
          intro w hSw
          go_simp
          intro hk4
          exfalso
          omega
        simp only [Act.put, List.setIfInBounds_toArray, List.set_cons_zero, List.set_cons_succ]
        refine wpAnyH_ready (rs := [4, 6]) (by kernel_rfl) (by simp) ?_
        refine AllReadyH.cons (o := ?eb11o) ?eb11h (fun K hK => ?eb11s) (AllReadyH.cons (o := ?eb12o) ?eb12h (fun K hK => ?eb12s) AllReadyH.nil)
        case eb11h => rw [List.getElem?_toArray]; rfl
        case eb12h => rw [List.getElem?_toArray]; rfl
        case eb11s =>
          obtain ⟨t, ht1, ht2⟩ := row4P hA hk
          go_simp
          refine hK.out _ _ trivial (fun hHeld => ?_)
          clear hK K ht2
          try simp only [Act.put, List.setIfInBounds_toArray, List.set_cons_zero, List.set_cons_succ]
          refine wpAnyH_ready (rs := [6]) (by kernel_rfl) (by simp) ?_
          refine AllReadyH.cons (o := ?eb13o) ?eb13h (fun K hK => ?eb13s) AllReadyH.nil
          case eb13h => rw [List.getElem?_toArray]; rfl
          go_simp
          refine hK.out _ _ trivial (fun hHeld => ?_)
          clear hK K
          have hB := heap_alloc_new ew9 (.cells #[.int .i64 49, .int .i64 50, .int .i64 51, .int .i64 99, .int .i64 100, .int .i64 101] 3)
          have hBg : ew9.heap.size ≠ g := Ne.symm (Nat.ne_of_lt hV.lt)
          replace hA := (heap_alloc_old ew9 (.cells #[.int .i64 49, .int .i64 50, .int .i64 51, .int .i64 99, .int .i64 100, .int .i64 101] 3) (blk_lt hA)).trans hA
          replace hT := hT.trans (Turns.new (.cells #[.int .i64 49, .int .i64 50, .int .i64 51, .int .i64 99, .int .i64 100, .int .i64 101] 3) (Nat.le_of_lt hV.lt))
          replace hV := hV.alloc (.cells #[.int .i64 49, .int .i64 50, .int .i64 51, .int .i64 99, .int .i64 100, .int .i64 101] 3)
          try simp only [Act.put, List.setIfInBounds_toArray, List.set_cons_zero, List.set_cons_succ]
          generalize (World.heap ew9).size = gB at hB hBg ⊢
          generalize World.alloc ew9 (.cells #[.int .i64 49, .int .i64 50, .int .i64 51, .int .i64 99, .int .i64 100, .int .i64 101] 3) = ew14 at hV hT hB hA ⊢
          refine wpAnyH_ready (rs := [7]) (by kernel_rfl) (by simp) ?_
          refine AllReadyH.cons (o := ?eb15o) ?eb15h (fun K hK => ?eb15s) AllReadyH.nil
          case eb15h => rw [List.getElem?_toArray]; rfl
          have hPk := Tryz.pickL hV (by omega) gB 6 [49, 50, 51, 99, 100, 101] rfl hBg hB (by decide) (by decide)
          go_simp
          with_reducible refine Calls.mono hPk ?_
          rintro e ew16 ⟨q, hq0, rfl, hV2, hT2⟩
          have hq : 49 ≤ q ∧ q ≤ 101 := by simp only [List.mem_cons, List.mem_nil_iff, or_false] at hq0; omega
          clear hq0
          go_wp2_with fail
          refine hK.out _ _ trivial (fun hHeld => ?_)
          clear hK K
          replace hA := hT2.block hA hAg
          replace hB := hT2.block hB hBg
          replace hT := hT.trans hT2
          replace hV := hV2
          clear hT2 hV2
          try simp only [Act.put, List.setIfInBounds_toArray, List.set_cons_zero, List.set_cons_succ]
          refine wpAnyH_ready (rs := [8]) (by kernel_rfl) (by simp) ?_
          refine AllReadyH.cons (o := ?eb17o) ?eb17h (fun K hK => ?eb17s) AllReadyH.nil
          case eb17h => rw [List.getElem?_toArray]; rfl
          go_simp
          with_reducible refine Calls.mono (Tryz.repeatF t q (by omega) (by omega) (by rw [ht1.1]; decide) _) ?_
          rintro e ew18 ⟨rfl, hb1⟩
          go_wp2_with fail
          refine hK.out _ _ trivial (fun hHeld => ?_)
          clear hK K
          replace hT := hT.trans (Turns.of hb1 (Nat.le_of_lt hV.lt))
          replace hV := hV.call hb1
          try simp only [Act.put, List.setIfInBounds_toArray, List.set_cons_zero, List.set_cons_succ]
          refine wpAnyH_take (i := 9) (oi := ?et19o) (v := .string ⟨(Lib.repeatL t.data.toList q.toNat).toArray⟩) ?et19h (by kernel_rfl) (by kernel_rfl) (by kernel_rfl) ?et19q (Or.inl ⟨?et19w, ?et19y⟩) (by assumption) ?et19r
          case et19h => rw [List.getElem?_toArray]; rfl
          case et19q => exact fun _ _ _ h => h
          case et19w => rfl
          case et19y =>
            intro w hSw
            go_simp
          simp only [Act.put, List.setIfInBounds_toArray, List.set_cons_zero, List.set_cons_succ]
          refine wpAnyH_done (by kernel_rfl) ?_ _
          go_wp2_with fail
          go_ret
          exact ⟨_, _, rep_print t q ht1 hq.2, by omega, rfl, hV, hT⟩
        case eb12s =>
          go_simp
          refine hK.out _ _ trivial (fun hHeld => ?_)
          clear hK K
          have hB := heap_alloc_new ew9 (.cells #[.int .i64 49, .int .i64 50, .int .i64 51, .int .i64 99, .int .i64 100, .int .i64 101] 3)
          have hBg : ew9.heap.size ≠ g := Ne.symm (Nat.ne_of_lt hV.lt)
          replace hA := (heap_alloc_old ew9 (.cells #[.int .i64 49, .int .i64 50, .int .i64 51, .int .i64 99, .int .i64 100, .int .i64 101] 3) (blk_lt hA)).trans hA
          replace hT := hT.trans (Turns.new (.cells #[.int .i64 49, .int .i64 50, .int .i64 51, .int .i64 99, .int .i64 100, .int .i64 101] 3) (Nat.le_of_lt hV.lt))
          replace hV := hV.alloc (.cells #[.int .i64 49, .int .i64 50, .int .i64 51, .int .i64 99, .int .i64 100, .int .i64 101] 3)
          try simp only [Act.put, List.setIfInBounds_toArray, List.set_cons_zero, List.set_cons_succ]
          generalize (World.heap ew9).size = gB at hB hBg ⊢
          generalize World.alloc ew9 (.cells #[.int .i64 49, .int .i64 50, .int .i64 51, .int .i64 99, .int .i64 100, .int .i64 101] 3) = ew20 at hV hT hB hA ⊢
          refine wpAnyH_ready (rs := [4, 7]) (by kernel_rfl) (by simp) ?_
          refine AllReadyH.cons (o := ?eb21o) ?eb21h (fun K hK => ?eb21s) (AllReadyH.cons (o := ?eb22o) ?eb22h (fun K hK => ?eb22s) AllReadyH.nil)
          case eb21h => rw [List.getElem?_toArray]; rfl
          case eb22h => rw [List.getElem?_toArray]; rfl
          case eb21s =>
            obtain ⟨t, ht1, ht2⟩ := row4P hA hk
            go_simp
            refine hK.out _ _ trivial (fun hHeld => ?_)
            clear hK K ht2
            try simp only [Act.put, List.setIfInBounds_toArray, List.set_cons_zero, List.set_cons_succ]
            refine wpAnyH_ready (rs := [7]) (by kernel_rfl) (by simp) ?_
            refine AllReadyH.cons (o := ?eb23o) ?eb23h (fun K hK => ?eb23s) AllReadyH.nil
            case eb23h => rw [List.getElem?_toArray]; rfl
            have hPk := Tryz.pickL hV (by omega) gB 6 [49, 50, 51, 99, 100, 101] rfl hBg hB (by decide) (by decide)
            go_simp
            with_reducible refine Calls.mono hPk ?_
            rintro e ew24 ⟨q, hq0, rfl, hV2, hT2⟩
            have hq : 49 ≤ q ∧ q ≤ 101 := by simp only [List.mem_cons, List.mem_nil_iff, or_false] at hq0; omega
            clear hq0
            go_wp2_with fail
            refine hK.out _ _ trivial (fun hHeld => ?_)
            clear hK K
            replace hA := hT2.block hA hAg
            replace hB := hT2.block hB hBg
            replace hT := hT.trans hT2
            replace hV := hV2
            clear hT2 hV2
            try simp only [Act.put, List.setIfInBounds_toArray, List.set_cons_zero, List.set_cons_succ]
            refine wpAnyH_ready (rs := [8]) (by kernel_rfl) (by simp) ?_
            refine AllReadyH.cons (o := ?eb25o) ?eb25h (fun K hK => ?eb25s) AllReadyH.nil
            case eb25h => rw [List.getElem?_toArray]; rfl
            go_simp
            with_reducible refine Calls.mono (Tryz.repeatF t q (by omega) (by omega) (by rw [ht1.1]; decide) _) ?_
            rintro e ew26 ⟨rfl, hb1⟩
            go_wp2_with fail
            refine hK.out _ _ trivial (fun hHeld => ?_)
            clear hK K
            replace hT := hT.trans (Turns.of hb1 (Nat.le_of_lt hV.lt))
            replace hV := hV.call hb1
            try simp only [Act.put, List.setIfInBounds_toArray, List.set_cons_zero, List.set_cons_succ]
            refine wpAnyH_take (i := 9) (oi := ?et27o) (v := .string ⟨(Lib.repeatL t.data.toList q.toNat).toArray⟩) ?et27h (by kernel_rfl) (by kernel_rfl) (by kernel_rfl) ?et27q (Or.inl ⟨?et27w, ?et27y⟩) (by assumption) ?et27r
            case et27h => rw [List.getElem?_toArray]; rfl
            case et27q => exact fun _ _ _ h => h
            case et27w => rfl
            case et27y =>
              intro w hSw
              go_simp
            simp only [Act.put, List.setIfInBounds_toArray, List.set_cons_zero, List.set_cons_succ]
            refine wpAnyH_done (by kernel_rfl) ?_ _
            go_wp2_with fail
            go_ret
            exact ⟨_, _, rep_print t q ht1 hq.2, by omega, rfl, hV, hT⟩
          case eb22s =>
            have hPk := Tryz.pickL hV (by omega) gB 6 [49, 50, 51, 99, 100, 101] rfl hBg hB (by decide) (by decide)
            go_simp
            with_reducible refine Calls.mono hPk ?_
            rintro e ew28 ⟨q, hq0, rfl, hV2, hT2⟩
            have hq : 49 ≤ q ∧ q ≤ 101 := by simp only [List.mem_cons, List.mem_nil_iff, or_false] at hq0; omega
            clear hq0
            go_wp2_with fail
            refine hK.out _ _ trivial (fun hHeld => ?_)
            clear hK K
            replace hA := hT2.block hA hAg
            replace hB := hT2.block hB hBg
            replace hT := hT.trans hT2
            replace hV := hV2
            clear hT2 hV2
            try simp only [Act.put, List.setIfInBounds_toArray, List.set_cons_zero, List.set_cons_succ]
            refine wpAnyH_ready (rs := [4]) (by kernel_rfl) (by simp) ?_
            refine AllReadyH.cons (o := ?eb29o) ?eb29h (fun K hK => ?eb29s) AllReadyH.nil
            case eb29h => rw [List.getElem?_toArray]; rfl
            obtain ⟨t, ht1, ht2⟩ := row4P hA hk
            go_simp
            refine hK.out _ _ trivial (fun hHeld => ?_)
            clear hK K ht2
            try simp only [Act.put, List.setIfInBounds_toArray, List.set_cons_zero, List.set_cons_succ]
            refine wpAnyH_ready (rs := [8]) (by kernel_rfl) (by simp) ?_
            refine AllReadyH.cons (o := ?eb30o) ?eb30h (fun K hK => ?eb30s) AllReadyH.nil
            case eb30h => rw [List.getElem?_toArray]; rfl
            go_simp
            with_reducible refine Calls.mono (Tryz.repeatF t q (by omega) (by omega) (by rw [ht1.1]; decide) _) ?_
            rintro e ew31 ⟨rfl, hb1⟩
            go_wp2_with fail
            refine hK.out _ _ trivial (fun hHeld => ?_)
            clear hK K
            replace hT := hT.trans (Turns.of hb1 (Nat.le_of_lt hV.lt))
            replace hV := hV.call hb1
            try simp only [Act.put, List.setIfInBounds_toArray, List.set_cons_zero, List.set_cons_succ]
            refine wpAnyH_take (i := 9) (oi := ?et32o) (v := .string ⟨(Lib.repeatL t.data.toList q.toNat).toArray⟩) ?et32h (by kernel_rfl) (by kernel_rfl) (by kernel_rfl) ?et32q (Or.inl ⟨?et32w, ?et32y⟩) (by assumption) ?et32r
            case et32h => rw [List.getElem?_toArray]; rfl
            case et32q => exact fun _ _ _ h => h
            case et32w => rfl
            case et32y =>
              intro w hSw
              go_simp
            simp only [Act.put, List.setIfInBounds_toArray, List.set_cons_zero, List.set_cons_succ]
            refine wpAnyH_done (by kernel_rfl) ?_ _
            go_wp2_with fail
            go_ret
            exact ⟨_, _, rep_print t q ht1 hq.2, by omega, rfl, hV, hT⟩
      case eb8s =>
        go_simp
        refine hK.out _ _ trivial (fun hHeld => ?_)
        clear hK K
        have hB := heap_alloc_new ew6 (.cells #[.int .i64 49, .int .i64 50, .int .i64 51, .int .i64 99, .int .i64 100, .int .i64 101] 3)
        have hBg : ew6.heap.size ≠ g := Ne.symm (Nat.ne_of_lt hV.lt)
        replace hA := (heap_alloc_old ew6 (.cells #[.int .i64 49, .int .i64 50, .int .i64 51, .int .i64 99, .int .i64 100, .int .i64 101] 3) (blk_lt hA)).trans hA
        replace hT := hT.trans (Turns.new (.cells #[.int .i64 49, .int .i64 50, .int .i64 51, .int .i64 99, .int .i64 100, .int .i64 101] 3) (Nat.le_of_lt hV.lt))
        replace hV := hV.alloc (.cells #[.int .i64 49, .int .i64 50, .int .i64 51, .int .i64 99, .int .i64 100, .int .i64 101] 3)
        try simp only [Act.put, List.setIfInBounds_toArray, List.set_cons_zero, List.set_cons_succ]
        generalize (World.heap ew6).size = gB at hB hBg ⊢
        generalize World.alloc ew6 (.cells #[.int .i64 49, .int .i64 50, .int .i64 51, .int .i64 99, .int .i64 100, .int .i64 101] 3) = ew33 at hV hT hB hA ⊢
        refine wpAnyH_ready (rs := [2]) (by kernel_rfl) (by simp) ?_
        refine AllReadyH.cons (o := ?eb34o) ?eb34h (fun K hK => ?eb34s) AllReadyH.nil
        case eb34h => rw [List.getElem?_toArray]; rfl
        go_simp
        with_reducible refine Calls.mono (Tryz.nextL hV (by omega) _ (by omega) (by omega)) ?_
        rintro e ew35 ⟨r, hr1, hr2, rfl, hV2, hT2⟩
        obtain ⟨k, rfl⟩ := Int.eq_ofNat_of_zero_le hr1
        have hk : k < 4 := by omega
        clear hr1 hr2
        go_wp2_with fail
        refine hK.out _ _ trivial (fun hHeld => ?_)
        clear hK K
        replace hA := hT2.block hA hAg
        replace hB := hT2.block hB hBg
        replace hT := hT.trans hT2
        replace hV := hV2
        clear hT2 hV2
        try simp only [Act.put, List.setIfInBounds_toArray, List.set_cons_zero, List.set_cons_succ]
        refine wpAnyH_take (i := 3) (oi := ?et36o) (v := .pointer (some ⟨gA, k, none⟩)) ?et36h (by kernel_rfl) (by kernel_rfl) (by kernel_rfl) ?et36q (Or.inl ⟨?et36w, ?et36y⟩) (by assumption) ?et36r
        case et36h => rw [List.getElem?_toArray]; rfl
        case et36q => exact fun _ _ _ h => h
        case et36w => rfl
        case et36y =>
          intro w hSw
          go_simp
          intro hk4
          exfalso
          omega
        simp only [Act.put, List.setIfInBounds_toArray, List.set_cons_zero, List.set_cons_succ]
        refine wpAnyH_ready (rs := [4, 7]) (by kernel_rfl) (by simp) ?_
        refine AllReadyH.cons (o := ?eb37o) ?eb37h (fun K hK => ?eb37s) (AllReadyH.cons (o := ?eb38o) ?eb38h (fun K hK => ?eb38s) AllReadyH.nil)
        case eb37h => rw [List.getElem?_toArray]; rfl
        case eb38h => rw [List.getElem?_toArray]; rfl
        case eb37s =>
          obtain ⟨t, ht1, ht2⟩ := row4P hA hk
          go_simp
          refine hK.out _ _ trivial (fun hHeld => ?_)
          clear hK K ht2
          try simp only [Act.put, List.setIfInBounds_toArray, List.set_cons_zero, List.set_cons_succ]
          refine wpAnyH_ready (rs := [7]) (by kernel_rfl) (by simp) ?_
          refine AllReadyH.cons (o := ?eb39o) ?eb39h (fun K hK => ?eb39s) AllReadyH.nil
          case eb39h => rw [List.getElem?_toArray]; rfl
          have hPk := Tryz.pickL hV (by omega) gB 6 [49, 50, 51, 99, 100, 101] rfl hBg hB (by decide) (by decide)
          go_simp
          with_reducible refine Calls.mono hPk ?_
          rintro e ew40 ⟨q, hq0, rfl, hV2, hT2⟩
          have hq : 49 ≤ q ∧ q ≤ 101 := by simp only [List.mem_cons, List.mem_nil_iff, or_false] at hq0; omega
          clear hq0
          go_wp2_with fail
          refine hK.out _ _ trivial (fun hHeld => ?_)
          clear hK K
          replace hA := hT2.block hA hAg
          replace hB := hT2.block hB hBg
          replace hT := hT.trans hT2
          replace hV := hV2
          clear hT2 hV2
          try simp only [Act.put, List.setIfInBounds_toArray, List.set_cons_zero, List.set_cons_succ]
          refine wpAnyH_ready (rs := [8]) (by kernel_rfl) (by simp) ?_
          refine AllReadyH.cons (o := ?eb41o) ?eb41h (fun K hK => ?eb41s) AllReadyH.nil
          case eb41h => rw [List.getElem?_toArray]; rfl
          go_simp
          with_reducible refine Calls.mono (Tryz.repeatF t q (by omega) (by omega) (by rw [ht1.1]; decide) _) ?_
          rintro e ew42 ⟨rfl, hb1⟩
          go_wp2_with fail
          refine hK.out _ _ trivial (fun hHeld => ?_)
          clear hK K
          replace hT := hT.trans (Turns.of hb1 (Nat.le_of_lt hV.lt))
          replace hV := hV.call hb1
          try simp only [Act.put, List.setIfInBounds_toArray, List.set_cons_zero, List.set_cons_succ]
          refine wpAnyH_take (i := 9) (oi := ?et43o) (v := .string ⟨(Lib.repeatL t.data.toList q.toNat).toArray⟩) ?et43h (by kernel_rfl) (by kernel_rfl) (by kernel_rfl) ?et43q (Or.inl ⟨?et43w, ?et43y⟩) (by assumption) ?et43r
          case et43h => rw [List.getElem?_toArray]; rfl
          case et43q => exact fun _ _ _ h => h
          case et43w => rfl
          case et43y =>
            intro w hSw
            go_simp
          simp only [Act.put, List.setIfInBounds_toArray, List.set_cons_zero, List.set_cons_succ]
          refine wpAnyH_done (by kernel_rfl) ?_ _
          go_wp2_with fail
          go_ret
          exact ⟨_, _, rep_print t q ht1 hq.2, by omega, rfl, hV, hT⟩
        case eb38s =>
          have hPk := Tryz.pickL hV (by omega) gB 6 [49, 50, 51, 99, 100, 101] rfl hBg hB (by decide) (by decide)
          go_simp
          with_reducible refine Calls.mono hPk ?_
          rintro e ew44 ⟨q, hq0, rfl, hV2, hT2⟩
          have hq : 49 ≤ q ∧ q ≤ 101 := by simp only [List.mem_cons, List.mem_nil_iff, or_false] at hq0; omega
          clear hq0
          go_wp2_with fail
          refine hK.out _ _ trivial (fun hHeld => ?_)
          clear hK K
          replace hA := hT2.block hA hAg
          replace hB := hT2.block hB hBg
          replace hT := hT.trans hT2
          replace hV := hV2
          clear hT2 hV2
          try simp only [Act.put, List.setIfInBounds_toArray, List.set_cons_zero, List.set_cons_succ]
          refine wpAnyH_ready (rs := [4]) (by kernel_rfl) (by simp) ?_
          refine AllReadyH.cons (o := ?eb45o) ?eb45h (fun K hK => ?eb45s) AllReadyH.nil
          case eb45h => rw [List.getElem?_toArray]; rfl
          obtain ⟨t, ht1, ht2⟩ := row4P hA hk
          go_simp
          refine hK.out _ _ trivial (fun hHeld => ?_)
          clear hK K ht2
          try simp only [Act.put, List.setIfInBounds_toArray, List.set_cons_zero, List.set_cons_succ]
          refine wpAnyH_ready (rs := [8]) (by kernel_rfl) (by simp) ?_
          refine AllReadyH.cons (o := ?eb46o) ?eb46h (fun K hK => ?eb46s) AllReadyH.nil
          case eb46h => rw [List.getElem?_toArray]; rfl
          go_simp
          with_reducible refine Calls.mono (Tryz.repeatF t q (by omega) (by omega) (by rw [ht1.1]; decide) _) ?_
          rintro e ew47 ⟨rfl, hb1⟩
          go_wp2_with fail
          refine hK.out _ _ trivial (fun hHeld => ?_)
          clear hK K
          replace hT := hT.trans (Turns.of hb1 (Nat.le_of_lt hV.lt))
          replace hV := hV.call hb1
          try simp only [Act.put, List.setIfInBounds_toArray, List.set_cons_zero, List.set_cons_succ]
          refine wpAnyH_take (i := 9) (oi := ?et48o) (v := .string ⟨(Lib.repeatL t.data.toList q.toNat).toArray⟩) ?et48h (by kernel_rfl) (by kernel_rfl) (by kernel_rfl) ?et48q (Or.inl ⟨?et48w, ?et48y⟩) (by assumption) ?et48r
          case et48h => rw [List.getElem?_toArray]; rfl
          case et48q => exact fun _ _ _ h => h
          case et48w => rfl
          case et48y =>
            intro w hSw
            go_simp
          simp only [Act.put, List.setIfInBounds_toArray, List.set_cons_zero, List.set_cons_succ]
          refine wpAnyH_done (by kernel_rfl) ?_ _
          go_wp2_with fail
          go_ret
          exact ⟨_, _, rep_print t q ht1 hq.2, by omega, rfl, hV, hT⟩
    case eb4s =>
      go_simp
      with_reducible refine Calls.mono (Tryz.nextL hV (by omega) _ (by omega) (by omega)) ?_
      rintro e ew49 ⟨r, hr1, hr2, rfl, hV2, hT2⟩
      obtain ⟨k, rfl⟩ := Int.eq_ofNat_of_zero_le hr1
      have hk : k < 4 := by omega
      clear hr1 hr2
      go_wp2_with fail
      refine hK.out _ _ trivial (fun hHeld => ?_)
      clear hK K
      replace hT := hT.trans hT2
      replace hV := hV2
      clear hT2 hV2
      try simp only [Act.put, List.setIfInBounds_toArray, List.set_cons_zero, List.set_cons_succ]
      refine wpAnyH_ready (rs := [0, 6]) (by kernel_rfl) (by simp) ?_
      refine AllReadyH.cons (o := ?eb50o) ?eb50h (fun K hK => ?eb50s) (AllReadyH.cons (o := ?eb51o) ?eb51h (fun K hK => ?eb51s) AllReadyH.nil)
      case eb50h => rw [List.getElem?_toArray]; rfl
      case eb51h => rw [List.getElem?_toArray]; rfl
      case eb50s =>
        go_simp
        refine hK.out _ _ trivial (fun hHeld => ?_)
        clear hK K
        have hA := heap_alloc_new ew49 (.cells #[.string ⟨#[97]⟩, .string ⟨#[39]⟩, .string ⟨#[92]⟩, .string ⟨#[37]⟩] 9)
        have hAg : ew49.heap.size ≠ g := Ne.symm (Nat.ne_of_lt hV.lt)
        replace hT := hT.trans (Turns.new (.cells #[.string ⟨#[97]⟩, .string ⟨#[39]⟩, .string ⟨#[92]⟩, .string ⟨#[37]⟩] 9) (Nat.le_of_lt hV.lt))
        replace hV := hV.alloc (.cells #[.string ⟨#[97]⟩, .string ⟨#[39]⟩, .string ⟨#[92]⟩, .string ⟨#[37]⟩] 9)
        try simp only [Act.put, List.setIfInBounds_toArray, List.set_cons_zero, List.set_cons_succ]
        generalize (World.heap ew49).size = gA at hA hAg ⊢
        generalize World.alloc ew49 (.cells #[.string ⟨#[97]⟩, .string ⟨#[39]⟩, .string ⟨#[92]⟩, .string ⟨#[37]⟩] 9) = ew52 at hV hT hA  ⊢
        refine wpAnyH_take (i := 3) (oi := ?et53o) (v := .pointer (some ⟨gA, k, none⟩)) ?et53h (by kernel_rfl) (by kernel_rfl) (by kernel_rfl) ?et53q (Or.inl ⟨?et53w, ?et53y⟩) (by assumption) ?et53r
        case et53h => rw [List.getElem?_toArray]; rfl
        case et53q => exact fun _ _ _ h => h
        case et53w => rfl
        case et53y =>
          intro w hSw
          go_simp
          intro hk4
          exfalso
          omega
        simp only [Act.put, List.setIfInBounds_toArray, List.set_cons_zero, List.set_cons_succ]
        refine wpAnyH_ready (rs := [4, 6]) (by kernel_rfl) (by simp) ?_
        refine AllReadyH.cons (o := ?eb54o) ?eb54h (fun K hK => ?eb54s) (AllReadyH.cons (o := ?eb55o) ?eb55h (fun K hK => ?eb55s) AllReadyH.nil)
        case eb54h => rw [List.getElem?_toArray]; rfl
        case eb55h => rw [List.getElem?_toArray]; rfl
        case eb54s =>
          obtain ⟨t, ht1, ht2⟩ := row4P hA hk
          go_simp
          refine hK.out _ _ trivial (fun hHeld => ?_)
          clear hK K ht2
          try simp only [Act.put, List.setIfInBounds_toArray, List.set_cons_zero, List.set_cons_succ]
          refine wpAnyH_ready (rs := [6]) (by kernel_rfl) (by simp) ?_
          refine AllReadyH.cons (o := ?eb56o) ?eb56h (fun K hK => ?eb56s) AllReadyH.nil
          case eb56h => rw [List.getElem?_toArray]; rfl
          go_simp
          refine hK.out _ _ trivial (fun hHeld => ?_)
          clear hK K
          have hB := heap_alloc_new ew52 (.cells #[.int .i64 49, .int .i64 50, .int .i64 51, .int .i64 99, .int .i64 100, .int .i64 101] 3)
          have hBg : ew52.heap.size ≠ g := Ne.symm (Nat.ne_of_lt hV.lt)
          replace hA := (heap_alloc_old ew52 (.cells #[.int .i64 49, .int .i64 50, .int .i64 51, .int .i64 99, .int .i64 100, .int .i64 101] 3) (blk_lt hA)).trans hA
          replace hT := hT.trans (Turns.new (.cells #[.int .i64 49, .int .i64 50, .int .i64 51, .int .i64 99, .int .i64 100, .int .i64 101] 3) (Nat.le_of_lt hV.lt))
          replace hV := hV.alloc (.cells #[.int .i64 49, .int .i64 50, .int .i64 51, .int .i64 99, .int .i64 100, .int .i64 101] 3)
          try simp only [Act.put, List.setIfInBounds_toArray, List.set_cons_zero, List.set_cons_succ]
          generalize (World.heap ew52).size = gB at hB hBg ⊢
          generalize World.alloc ew52 (.cells #[.int .i64 49, .int .i64 50, .int .i64 51, .int .i64 99, .int .i64 100, .int .i64 101] 3) = ew57 at hV hT hB hA ⊢
          refine wpAnyH_ready (rs := [7]) (by kernel_rfl) (by simp) ?_
          refine AllReadyH.cons (o := ?eb58o) ?eb58h (fun K hK => ?eb58s) AllReadyH.nil
          case eb58h => rw [List.getElem?_toArray]; rfl
          have hPk := Tryz.pickL hV (by omega) gB 6 [49, 50, 51, 99, 100, 101] rfl hBg hB (by decide) (by decide)
          go_simp
          with_reducible refine Calls.mono hPk ?_
          rintro e ew59 ⟨q, hq0, rfl, hV2, hT2⟩
          have hq : 49 ≤ q ∧ q ≤ 101 := by simp only [List.mem_cons, List.mem_nil_iff, or_false] at hq0; omega
          clear hq0
          go_wp2_with fail
          refine hK.out _ _ trivial (fun hHeld => ?_)
          clear hK K
          replace hA := hT2.block hA hAg
          replace hB := hT2.block hB hBg
          replace hT := hT.trans hT2
          replace hV := hV2
          clear hT2 hV2
          try simp only [Act.put, List.setIfInBounds_toArray, List.set_cons_zero, List.set_cons_succ]
          refine wpAnyH_ready (rs := [8]) (by kernel_rfl) (by simp) ?_
          refine AllReadyH.cons (o := ?eb60o) ?eb60h (fun K hK => ?eb60s) AllReadyH.nil
          case eb60h => rw [List.getElem?_toArray]; rfl
          go_simp
          with_reducible refine Calls.mono (Tryz.repeatF t q (by omega) (by omega) (by rw [ht1.1]; decide) _) ?_
          rintro e ew61 ⟨rfl, hb1⟩
          go_wp2_with fail
          refine hK.out _ _ trivial (fun hHeld => ?_)
          clear hK K
          replace hT := hT.trans (Turns.of hb1 (Nat.le_of_lt hV.lt))
          replace hV := hV.call hb1
          try simp only [Act.put, List.setIfInBounds_toArray, List.set_cons_zero, List.set_cons_succ]
          refine wpAnyH_take (i := 9) (oi := ?et62o) (v := .string ⟨(Lib.repeatL t.data.toList q.toNat).toArray⟩) ?et62h (by kernel_rfl) (by kernel_rfl) (by kernel_rfl) ?et62q (Or.inl ⟨?et62w, ?et62y⟩) (by assumption) ?et62r
          case et62h => rw [List.getElem?_toArray]; rfl
          case et62q => exact fun _ _ _ h => h
          case et62w => rfl
          case et62y =>
            intro w hSw
            go_simp
          simp only [Act.put, List.setIfInBounds_toArray, List.set_cons_zero, List.set_cons_succ]
          refine wpAnyH_done (by kernel_rfl) ?_ _
          go_wp2_with fail
          go_ret
          exact ⟨_, _, rep_print t q ht1 hq.2, by omega, rfl, hV, hT⟩
        case eb55s =>
          go_simp
          refine hK.out _ _ trivial (fun hHeld => ?_)
          clear hK K
          have hB := heap_alloc_new ew52 (.cells #[.int .i64 49, .int .i64 50, .int .i64 51, .int .i64 99, .int .i64 100, .int .i64 101] 3)
          have hBg : ew52.heap.size ≠ g := Ne.symm (Nat.ne_of_lt hV.lt)
          replace hA := (heap_alloc_old ew52 (.cells #[.int .i64 49, .int .i64 50, .int .i64 51, .int .i64 99, .int .i64 100, .int .i64 101] 3) (blk_lt hA)).trans hA
          replace hT := hT.trans (Turns.new (.cells #[.int .i64 49, .int .i64 50, .int .i64 51, .int .i64 99, .int .i64 100, .int .i64 101] 3) (Nat.le_of_lt hV.lt))
          replace hV := hV.alloc (.cells #[.int .i64 49, .int .i64 50, .int .i64 51, .int .i64 99, .int .i64 100, .int .i64 101] 3)
          try simp only [Act.put, List.setIfInBounds_toArray, List.set_cons_zero, List.set_cons_succ]
          generalize (World.heap ew52).size = gB at hB hBg ⊢
          generalize World.alloc ew52 (.cells #[.int .i64 49, .int .i64 50, .int .i64 51, .int .i64 99, .int .i64 100, .int .i64 101] 3) = ew63 at hV hT hB hA ⊢
          refine wpAnyH_ready (rs := [4, 7]) (by kernel_rfl) (by simp) ?_
          refine AllReadyH.cons (o := ?eb64o) ?eb64h (fun K hK => ?eb64s) (AllReadyH.cons (o := ?eb65o) ?eb65h (fun K hK => ?eb65s) AllReadyH.nil)
          case eb64h => rw [List.getElem?_toArray]; rfl
          case eb65h => rw [List.getElem?_toArray]; rfl
          case eb64s =>
            obtain ⟨t, ht1, ht2⟩ := row4P hA hk
            go_simp
            refine hK.out _ _ trivial (fun hHeld => ?_)
            clear hK K ht2
            try simp only [Act.put, List.setIfInBounds_toArray, List.set_cons_zero, List.set_cons_succ]
            refine wpAnyH_ready (rs := [7]) (by kernel_rfl) (by simp) ?_
            refine AllReadyH.cons (o := ?eb66o) ?eb66h (fun K hK => ?eb66s) AllReadyH.nil
            case eb66h => rw [List.getElem?_toArray]; rfl
            have hPk := Tryz.pickL hV (by omega) gB 6 [49, 50, 51, 99, 100, 101] rfl hBg hB (by decide) (by decide)
            go_simp
            with_reducible refine Calls.mono hPk ?_
            rintro e ew67 ⟨q, hq0, rfl, hV2, hT2⟩
            have hq : 49 ≤ q ∧ q ≤ 101 := by simp only [List.mem_cons, List.mem_nil_iff, or_false] at hq0; omega
            clear hq0
            go_wp2_with fail
            refine hK.out _ _ trivial (fun hHeld => ?_)
            clear hK K
            replace hA := hT2.block hA hAg
            replace hB := hT2.block hB hBg
            replace hT := hT.trans hT2
            replace hV := hV2
            clear hT2 hV2
            try simp only [Act.put, List.setIfInBounds_toArray, List.set_cons_zero, List.set_cons_succ]
            refine wpAnyH_ready (rs := [8]) (by kernel_rfl) (by simp) ?_
            refine AllReadyH.cons (o := ?eb68o) ?eb68h (fun K hK => ?eb68s) AllReadyH.nil
            case eb68h => rw [List.getElem?_toArray]; rfl
            go_simp
            with_reducible refine Calls.mono (Tryz.repeatF t q (by omega) (by omega) (by rw [ht1.1]; decide) _) ?_
            rintro e ew69 ⟨rfl, hb1⟩
            go_wp2_with fail
            refine hK.out _ _ trivial (fun hHeld => ?_)
            clear hK K
            replace hT := hT.trans (Turns.of hb1 (Nat.le_of_lt hV.lt))
            replace hV := hV.call hb1
            try simp only [Act.put, List.setIfInBounds_toArray, List.set_cons_zero, List.set_cons_succ]
            refine wpAnyH_take (i := 9) (oi := ?et70o) (v := .string ⟨(Lib.repeatL t.data.toList q.toNat).toArray⟩) ?et70h (by kernel_rfl) (by kernel_rfl) (by kernel_rfl) ?et70q (Or.inl ⟨?et70w, ?et70y⟩) (by assumption) ?et70r
            case et70h => rw [List.getElem?_toArray]; rfl
            case et70q => exact fun _ _ _ h => h
            case et70w => rfl
            case et70y =>
              intro w hSw
              go_simp
            simp only [Act.put, List.setIfInBounds_toArray, List.set_cons_zero, List.set_cons_succ]
            refine wpAnyH_done (by kernel_rfl) ?_ _
            go_wp2_with fail
            go_ret
            exact ⟨_, _, rep_print t q ht1 hq.2, by omega, rfl, hV, hT⟩
          case eb65s =>
            have hPk := Tryz.pickL hV (by omega) gB 6 [49, 50, 51, 99, 100, 101] rfl hBg hB (by decide) (by decide)
            go_simp
            with_reducible refine Calls.mono hPk ?_
            rintro e ew71 ⟨q, hq0, rfl, hV2, hT2⟩
            have hq : 49 ≤ q ∧ q ≤ 101 := by simp only [List.mem_cons, List.mem_nil_iff, or_false] at hq0; omega
            clear hq0
            go_wp2_with fail
            refine hK.out _ _ trivial (fun hHeld => ?_)
            clear hK K
            replace hA := hT2.block hA hAg
            replace hB := hT2.block hB hBg
            replace hT := hT.trans hT2
            replace hV := hV2
            clear hT2 hV2
            try simp only [Act.put, List.setIfInBounds_toArray, List.set_cons_zero, List.set_cons_succ]
            refine wpAnyH_ready (rs := [4]) (by kernel_rfl) (by simp) ?_
            refine AllReadyH.cons (o := ?eb72o) ?eb72h (fun K hK => ?eb72s) AllReadyH.nil
            case eb72h => rw [List.getElem?_toArray]; rfl
            obtain ⟨t, ht1, ht2⟩ := row4P hA hk
            go_simp
            refine hK.out _ _ trivial (fun hHeld => ?_)
            clear hK K ht2
            try simp only [Act.put, List.setIfInBounds_toArray, List.set_cons_zero, List.set_cons_succ]
            refine wpAnyH_ready (rs := [8]) (by kernel_rfl) (by simp) ?_
            refine AllReadyH.cons (o := ?eb73o) ?eb73h (fun K hK => ?eb73s) AllReadyH.nil
            case eb73h => rw [List.getElem?_toArray]; rfl
            go_simp
            with_reducible refine Calls.mono (Tryz.repeatF t q (by omega) (by omega) (by rw [ht1.1]; decide) _) ?_
            rintro e ew74 ⟨rfl, hb1⟩
            go_wp2_with fail
            refine hK.out _ _ trivial (fun hHeld => ?_)
            clear hK K
            replace hT := hT.trans (Turns.of hb1 (Nat.le_of_lt hV.lt))
            replace hV := hV.call hb1
            try simp only [Act.put, List.setIfInBounds_toArray, List.set_cons_zero, List.set_cons_succ]
            refine wpAnyH_take (i := 9) (oi := ?et75o) (v := .string ⟨(Lib.repeatL t.data.toList q.toNat).toArray⟩) ?et75h (by kernel_rfl) (by kernel_rfl) (by kernel_rfl) ?et75q (Or.inl ⟨?et75w, ?et75y⟩) (by assumption) ?et75r
            case et75h => rw [List.getElem?_toArray]; rfl
            case et75q => exact fun _ _ _ h => h
            case et75w => rfl
            case et75y =>
              intro w hSw
              go_simp
            simp only [Act.put, List.setIfInBounds_toArray, List.set_cons_zero, List.set_cons_succ]
            refine wpAnyH_done (by kernel_rfl) ?_ _
            go_wp2_with fail
            go_ret
            exact ⟨_, _, rep_print t q ht1 hq.2, by omega, rfl, hV, hT⟩
      case eb51s =>
        go_simp
        refine hK.out _ _ trivial (fun hHeld => ?_)
        clear hK K
        have hB := heap_alloc_new ew49 (.cells #[.int .i64 49, .int .i64 50, .int .i64 51, .int .i64 99, .int .i64 100, .int .i64 101] 3)
        have hBg : ew49.heap.size ≠ g := Ne.symm (Nat.ne_of_lt hV.lt)
        replace hT := hT.trans (Turns.new (.cells #[.int .i64 49, .int .i64 50, .int .i64 51, .int .i64 99, .int .i64 100, .int .i64 101] 3) (Nat.le_of_lt hV.lt))
        replace hV := hV.alloc (.cells #[.int .i64 49, .int .i64 50, .int .i64 51, .int .i64 99, .int .i64 100, .int .i64 101] 3)
        try simp only [Act.put, List.setIfInBounds_toArray, List.set_cons_zero, List.set_cons_succ]
        generalize (World.heap ew49).size = gB at hB hBg ⊢
        generalize World.alloc ew49 (.cells #[.int .i64 49, .int .i64 50, .int .i64 51, .int .i64 99, .int .i64 100, .int .i64 101] 3) = ew76 at hV hT hB  ⊢
        refine wpAnyH_ready (rs := [0, 7]) (by kernel_rfl) (by simp) ?_
        refine AllReadyH.cons (o := ?eb77o) ?eb77h (fun K hK => ?eb77s) (AllReadyH.cons (o := ?eb78o) ?eb78h (fun K hK => ?eb78s) AllReadyH.nil)
        case eb77h => rw [List.getElem?_toArray]; rfl
        case eb78h => rw [List.getElem?_toArray]; rfl
        case eb77s =>
          go_simp
          refine hK.out _ _ trivial (fun hHeld => ?_)
          clear hK K
          have hA := heap_alloc_new ew76 (.cells #[.string ⟨#[97]⟩, .string ⟨#[39]⟩, .string ⟨#[92]⟩, .string ⟨#[37]⟩] 9)
          have hAg : ew76.heap.size ≠ g := Ne.symm (Nat.ne_of_lt hV.lt)
          replace hB := (heap_alloc_old ew76 (.cells #[.string ⟨#[97]⟩, .string ⟨#[39]⟩, .string ⟨#[92]⟩, .string ⟨#[37]⟩] 9) (blk_lt hB)).trans hB
          replace hT := hT.trans (Turns.new (.cells #[.string ⟨#[97]⟩, .string ⟨#[39]⟩, .string ⟨#[92]⟩, .string ⟨#[37]⟩] 9) (Nat.le_of_lt hV.lt))
          replace hV := hV.alloc (.cells #[.string ⟨#[97]⟩, .string ⟨#[39]⟩, .string ⟨#[92]⟩, .string ⟨#[37]⟩] 9)
          try simp only [Act.put, List.setIfInBounds_toArray, List.set_cons_zero, List.set_cons_succ]
          generalize (World.heap ew76).size = gA at hA hAg ⊢
          generalize World.alloc ew76 (.cells #[.string ⟨#[97]⟩, .string ⟨#[39]⟩, .string ⟨#[92]⟩, .string ⟨#[37]⟩] 9) = ew79 at hV hT hA hB ⊢
          refine wpAnyH_take (i := 3) (oi := ?et80o) (v := .pointer (some ⟨gA, k, none⟩)) ?et80h (by kernel_rfl) (by kernel_rfl) (by kernel_rfl) ?et80q (Or.inl ⟨?et80w, ?et80y⟩) (by assumption) ?et80r
          case et80h => rw [List.getElem?_toArray]; rfl
          case et80q => exact fun _ _ _ h => h
          case et80w => rfl
          case et80y =>
            intro w hSw
            go_simp
            intro hk4
            exfalso
            omega
          simp only [Act.put, List.setIfInBounds_toArray, List.set_cons_zero, List.set_cons_succ]
          refine wpAnyH_ready (rs := [4, 7]) (by kernel_rfl) (by simp) ?_
          refine AllReadyH.cons (o := ?eb81o) ?eb81h (fun K hK => ?eb81s) (AllReadyH.cons (o := ?eb82o) ?eb82h (fun K hK => ?eb82s) AllReadyH.nil)
          case eb81h => rw [List.getElem?_toArray]; rfl
          case eb82h => rw [List.getElem?_toArray]; rfl
          case eb81s =>
            obtain ⟨t, ht1, ht2⟩ := row4P hA hk
            go_simp
            refine hK.out _ _ trivial (fun hHeld => ?_)
            clear hK K ht2
            try simp only [Act.put, List.setIfInBounds_toArray, List.set_cons_zero, List.set_cons_succ]
            refine wpAnyH_ready (rs := [7]) (by kernel_rfl) (by simp) ?_
            refine AllReadyH.cons (o := ?eb83o) ?eb83h (fun K hK => ?eb83s) AllReadyH.nil
            case eb83h => rw [List.getElem?_toArray]; rfl
            have hPk := Tryz.pickL hV (by omega) gB 6 [49, 50, 51, 99, 100, 101] rfl hBg hB (by decide) (by decide)
            go_simp
            with_reducible refine Calls.mono hPk ?_
            rintro e ew84 ⟨q, hq0, rfl, hV2, hT2⟩
            have hq : 49 ≤ q ∧ q ≤ 101 := by simp only [List.mem_cons, List.mem_nil_iff, or_false] at hq0; omega
            clear hq0
            go_wp2_with fail
            refine hK.out _ _ trivial (fun hHeld => ?_)
            clear hK K
            replace hA := hT2.block hA hAg
            replace hB := hT2.block hB hBg
            replace hT := hT.trans hT2
            replace hV := hV2
            clear hT2 hV2
            try simp only [Act.put, List.setIfInBounds_toArray, List.set_cons_zero, List.set_cons_succ]
            refine wpAnyH_ready (rs := [8]) (by kernel_rfl) (by simp) ?_
            refine AllReadyH.cons (o := ?eb85o) ?eb85h (fun K hK => ?eb85s) AllReadyH.nil
            case eb85h => rw [List.getElem?_toArray]; rfl
            go_simp
            with_reducible refine Calls.mono (Tryz.repeatF t q (by omega) (by omega) (by rw [ht1.1]; decide) _) ?_
            rintro e ew86 ⟨rfl, hb1⟩
            go_wp2_with fail
            refine hK.out _ _ trivial (fun hHeld => ?_)
            clear hK K
            replace hT := hT.trans (Turns.of hb1 (Nat.le_of_lt hV.lt))
            replace hV := hV.call hb1
            try simp only [Act.put, List.setIfInBounds_toArray, List.set_cons_zero, List.set_cons_succ]
            refine wpAnyH_take (i := 9) (oi := ?et87o) (v := .string ⟨(Lib.repeatL t.data.toList q.toNat).toArray⟩) ?et87h (by kernel_rfl) (by kernel_rfl) (by kernel_rfl) ?et87q (Or.inl ⟨?et87w, ?et87y⟩) (by assumption) ?et87r
            case et87h => rw [List.getElem?_toArray]; rfl
            case et87q => exact fun _ _ _ h => h
            case et87w => rfl
            case et87y =>
              intro w hSw
              go_simp
            simp only [Act.put, List.setIfInBounds_toArray, List.set_cons_zero, List.set_cons_succ]
            refine wpAnyH_done (by kernel_rfl) ?_ _
            go_wp2_with fail
            go_ret
            exact ⟨_, _, rep_print t q ht1 hq.2, by omega, rfl, hV, hT⟩
          case eb82s =>
            have hPk := Tryz.pickL hV (by omega) gB 6 [49, 50, 51, 99, 100, 101] rfl hBg hB (by decide) (by decide)
            go_simp
            with_reducible refine Calls.mono hPk ?_
            rintro e ew88 ⟨q, hq0, rfl, hV2, hT2⟩
            have hq : 49 ≤ q ∧ q ≤ 101 := by simp only [List.mem_cons, List.mem_nil_iff, or_false] at hq0; omega
            clear hq0
            go_wp2_with fail
            refine hK.out _ _ trivial (fun hHeld => ?_)
            clear hK K
            replace hA := hT2.block hA hAg
            replace hB := hT2.block hB hBg
            replace hT := hT.trans hT2
            replace hV := hV2
            clear hT2 hV2
            try simp only [Act.put, List.setIfInBounds_toArray, List.set_cons_zero, List.set_cons_succ]
            refine wpAnyH_ready (rs := [4]) (by kernel_rfl) (by simp) ?_
            refine AllReadyH.cons (o := ?eb89o) ?eb89h (fun K hK => ?eb89s) AllReadyH.nil
            case eb89h => rw [List.getElem?_toArray]; rfl
            obtain ⟨t, ht1, ht2⟩ := row4P hA hk
            go_simp
            refine hK.out _ _ trivial (fun hHeld => ?_)
            clear hK K ht2
            try simp only [Act.put, List.setIfInBounds_toArray, List.set_cons_zero, List.set_cons_succ]
            refine wpAnyH_ready (rs := [8]) (by kernel_rfl) (by simp) ?_
            refine AllReadyH.cons (o := ?eb90o) ?eb90h (fun K hK => ?eb90s) AllReadyH.nil
            case eb90h => rw [List.getElem?_toArray]; rfl
            go_simp
            with_reducible refine Calls.mono (Tryz.repeatF t q (by omega) (by omega) (by rw [ht1.1]; decide) _) ?_
            rintro e ew91 ⟨rfl, hb1⟩
            go_wp2_with fail
            refine hK.out _ _ trivial (fun hHeld => ?_)
            clear hK K
            replace hT := hT.trans (Turns.of hb1 (Nat.le_of_lt hV.lt))
            replace hV := hV.call hb1
            try simp only [Act.put, List.setIfInBounds_toArray, List.set_cons_zero, List.set_cons_succ]
            refine wpAnyH_take (i := 9) (oi := ?et92o) (v := .string ⟨(Lib.repeatL t.data.toList q.toNat).toArray⟩) ?et92h (by kernel_rfl) (by kernel_rfl) (by kernel_rfl) ?et92q (Or.inl ⟨?et92w, ?et92y⟩) (by assumption) ?et92r
            case et92h => rw [List.getElem?_toArray]; rfl
            case et92q => exact fun _ _ _ h => h
            case et92w => rfl
            case et92y =>
              intro w hSw
              go_simp
            simp only [Act.put, List.setIfInBounds_toArray, List.set_cons_zero, List.set_cons_succ]
            refine wpAnyH_done (by kernel_rfl) ?_ _
            go_wp2_with fail
            go_ret
            exact ⟨_, _, rep_print t q ht1 hq.2, by omega, rfl, hV, hT⟩
        case eb78s =>
          have hPk := Tryz.pickL hV (by omega) gB 6 [49, 50, 51, 99, 100, 101] rfl hBg hB (by decide) (by decide)
          go_simp
          with_reducible refine Calls.mono hPk ?_
          rintro e ew93 ⟨q, hq0, rfl, hV2, hT2⟩
          have hq : 49 ≤ q ∧ q ≤ 101 := by simp only [List.mem_cons, List.mem_nil_iff, or_false] at hq0; omega
          clear hq0
          go_wp2_with fail
          refine hK.out _ _ trivial (fun hHeld => ?_)
          clear hK K
          replace hB := hT2.block hB hBg
          replace hT := hT.trans hT2
          replace hV := hV2
          clear hT2 hV2
          try simp only [Act.put, List.setIfInBounds_toArray, List.set_cons_zero, List.set_cons_succ]
          refine wpAnyH_ready (rs := [0]) (by kernel_rfl) (by simp) ?_
          refine AllReadyH.cons (o := ?eb94o) ?eb94h (fun K hK => ?eb94s) AllReadyH.nil
          case eb94h => rw [List.getElem?_toArray]; rfl
          go_simp
          refine hK.out _ _ trivial (fun hHeld => ?_)
          clear hK K
          have hA := heap_alloc_new ew93 (.cells #[.string ⟨#[97]⟩, .string ⟨#[39]⟩, .string ⟨#[92]⟩, .string ⟨#[37]⟩] 9)
          have hAg : ew93.heap.size ≠ g := Ne.symm (Nat.ne_of_lt hV.lt)
          replace hB := (heap_alloc_old ew93 (.cells #[.string ⟨#[97]⟩, .string ⟨#[39]⟩, .string ⟨#[92]⟩, .string ⟨#[37]⟩] 9) (blk_lt hB)).trans hB
          replace hT := hT.trans (Turns.new (.cells #[.string ⟨#[97]⟩, .string ⟨#[39]⟩, .string ⟨#[92]⟩, .string ⟨#[37]⟩] 9) (Nat.le_of_lt hV.lt))
          replace hV := hV.alloc (.cells #[.string ⟨#[97]⟩, .string ⟨#[39]⟩, .string ⟨#[92]⟩, .string ⟨#[37]⟩] 9)
          try simp only [Act.put, List.setIfInBounds_toArray, List.set_cons_zero, List.set_cons_succ]
          generalize (World.heap ew93).size = gA at hA hAg ⊢
          generalize World.alloc ew93 (.cells #[.string ⟨#[97]⟩, .string ⟨#[39]⟩, .string ⟨#[92]⟩, .string ⟨#[37]⟩] 9) = ew95 at hV hT hA hB ⊢
          refine wpAnyH_take (i := 3) (oi := ?et96o) (v := .pointer (some ⟨gA, k, none⟩)) ?et96h (by kernel_rfl) (by kernel_rfl) (by kernel_rfl) ?et96q (Or.inl ⟨?et96w, ?et96y⟩) (by assumption) ?et96r
          case et96h => rw [List.getElem?_toArray]; rfl
          case et96q => exact fun _ _ _ h => h
          case et96w => rfl
          case et96y =>
            intro w hSw
            go_simp
            intro hk4
            exfalso
            omega
          simp only [Act.put, List.setIfInBounds_toArray, List.set_cons_zero, List.set_cons_succ]
          refine wpAnyH_ready (rs := [4]) (by kernel_rfl) (by simp) ?_
          refine AllReadyH.cons (o := ?eb97o) ?eb97h (fun K hK => ?eb97s) AllReadyH.nil
          case eb97h => rw [List.getElem?_toArray]; rfl
          obtain ⟨t, ht1, ht2⟩ := row4P hA hk
          go_simp
          refine hK.out _ _ trivial (fun hHeld => ?_)
          clear hK K ht2
          try simp only [Act.put, List.setIfInBounds_toArray, List.set_cons_zero, List.set_cons_succ]
          refine wpAnyH_ready (rs := [8]) (by kernel_rfl) (by simp) ?_
          refine AllReadyH.cons (o := ?eb98o) ?eb98h (fun K hK => ?eb98s) AllReadyH.nil
          case eb98h => rw [List.getElem?_toArray]; rfl
          go_simp
          with_reducible refine Calls.mono (Tryz.repeatF t q (by omega) (by omega) (by rw [ht1.1]; decide) _) ?_
          rintro e ew99 ⟨rfl, hb1⟩
          go_wp2_with fail
          refine hK.out _ _ trivial (fun hHeld => ?_)
          clear hK K
          replace hT := hT.trans (Turns.of hb1 (Nat.le_of_lt hV.lt))
          replace hV := hV.call hb1
          try simp only [Act.put, List.setIfInBounds_toArray, List.set_cons_zero, List.set_cons_succ]
          refine wpAnyH_take (i := 9) (oi := ?et100o) (v := .string ⟨(Lib.repeatL t.data.toList q.toNat).toArray⟩) ?et100h (by kernel_rfl) (by kernel_rfl) (by kernel_rfl) ?et100q (Or.inl ⟨?et100w, ?et100y⟩) (by assumption) ?et100r
          case et100h => rw [List.getElem?_toArray]; rfl
          case et100q => exact fun _ _ _ h => h
          case et100w => rfl
          case et100y =>
            intro w hSw
            go_simp
          simp only [Act.put, List.setIfInBounds_toArray, List.set_cons_zero, List.set_cons_succ]
          refine wpAnyH_done (by kernel_rfl) ?_ _
          go_wp2_with fail
          go_ret
          exact ⟨_, _, rep_print t q ht1 hq.2, by omega, rfl, hV, hT⟩
    case eb5s =>
      go_simp
      refine hK.out _ _ trivial (fun hHeld => ?_)
      clear hK K
      have hB := heap_alloc_new W0 (.cells #[.int .i64 49, .int .i64 50, .int .i64 51, .int .i64 99, .int .i64 100, .int .i64 101] 3)
      have hBg : W0.heap.size ≠ g := Ne.symm (Nat.ne_of_lt hV.lt)
      replace hT := hT.trans (Turns.new (.cells #[.int .i64 49, .int .i64 50, .int .i64 51, .int .i64 99, .int .i64 100, .int .i64 101] 3) (Nat.le_of_lt hV.lt))
      replace hV := hV.alloc (.cells #[.int .i64 49, .int .i64 50, .int .i64 51, .int .i64 99, .int .i64 100, .int .i64 101] 3)
      try simp only [Act.put, List.setIfInBounds_toArray, List.set_cons_zero, List.set_cons_succ]
      generalize (World.heap W0).size = gB at hB hBg ⊢
      generalize World.alloc W0 (.cells #[.int .i64 49, .int .i64 50, .int .i64 51, .int .i64 99, .int .i64 100, .int .i64 101] 3) = ew101 at hV hT hB  ⊢
      refine wpAnyH_ready (rs := [0, 2]) (by kernel_rfl) (by simp) ?_
      refine AllReadyH.cons (o := ?eb102o) ?eb102h (fun K hK => ?eb102s) (AllReadyH.cons (o := ?eb103o) ?eb103h (fun K hK => ?eb103s) AllReadyH.nil)
      case eb102h => rw [List.getElem?_toArray]; rfl
      case eb103h => rw [List.getElem?_toArray]; rfl
      case eb102s =>
        go_simp
        refine hK.out _ _ trivial (fun hHeld => ?_)
        clear hK K
        have hA := heap_alloc_new ew101 (.cells #[.string ⟨#[97]⟩, .string ⟨#[39]⟩, .string ⟨#[92]⟩, .string ⟨#[37]⟩] 9)
        have hAg : ew101.heap.size ≠ g := Ne.symm (Nat.ne_of_lt hV.lt)
        replace hB := (heap_alloc_old ew101 (.cells #[.string ⟨#[97]⟩, .string ⟨#[39]⟩, .string ⟨#[92]⟩, .string ⟨#[37]⟩] 9) (blk_lt hB)).trans hB
        replace hT := hT.trans (Turns.new (.cells #[.string ⟨#[97]⟩, .string ⟨#[39]⟩, .string ⟨#[92]⟩, .string ⟨#[37]⟩] 9) (Nat.le_of_lt hV.lt))
        replace hV := hV.alloc (.cells #[.string ⟨#[97]⟩, .string ⟨#[39]⟩, .string ⟨#[92]⟩, .string ⟨#[37]⟩] 9)
        try simp only [Act.put, List.setIfInBounds_toArray, List.set_cons_zero, List.set_cons_succ]
        generalize (World.heap ew101).size = gA at hA hAg ⊢
        generalize World.alloc ew101 (.cells #[.string ⟨#[97]⟩, .string ⟨#[39]⟩, .string ⟨#[92]⟩, .string ⟨#[37]⟩] 9) = ew104 at hV hT hA hB ⊢
        refine wpAnyH_ready (rs := [2]) (by kernel_rfl) (by simp) ?_
        refine AllReadyH.cons (o := ?eb105o) ?eb105h (fun K hK => ?eb105s) AllReadyH.nil
        case eb105h => rw [List.getElem?_toArray]; rfl
        go_simp
        with_reducible refine Calls.mono (Tryz.nextL hV (by omega) _ (by omega) (by omega)) ?_
        rintro e ew106 ⟨r, hr1, hr2, rfl, hV2, hT2⟩
        obtain ⟨k, rfl⟩ := Int.eq_ofNat_of_zero_le hr1
        have hk : k < 4 := by omega
        clear hr1 hr2
        go_wp2_with fail
        refine hK.out _ _ trivial (fun hHeld => ?_)
        clear hK K
        replace hA := hT2.block hA hAg
        replace hB := hT2.block hB hBg
        replace hT := hT.trans hT2
        replace hV := hV2
        clear hT2 hV2
        try simp only [Act.put, List.setIfInBounds_toArray, List.set_cons_zero, List.set_cons_succ]
        refine wpAnyH_take (i := 3) (oi := ?et107o) (v := .pointer (some ⟨gA, k, none⟩)) ?et107h (by kernel_rfl) (by kernel_rfl) (by kernel_rfl) ?et107q (Or.inl ⟨?et107w, ?et107y⟩) (by assumption) ?et107r
        case et107h => rw [List.getElem?_toArray]; rfl
        case et107q => exact fun _ _ _ h => h
        case et107w => rfl
        case et107y =>
          intro w hSw
          go_simp
          intro hk4
          exfalso
          omega
        simp only [Act.put, List.setIfInBounds_toArray, List.set_cons_zero, List.set_cons_succ]
        refine wpAnyH_ready (rs := [4, 7]) (by kernel_rfl) (by simp) ?_
        refine AllReadyH.cons (o := ?eb108o) ?eb108h (fun K hK => ?eb108s) (AllReadyH.cons (o := ?eb109o) ?eb109h (fun K hK => ?eb109s) AllReadyH.nil)
        case eb108h => rw [List.getElem?_toArray]; rfl
        case eb109h => rw [List.getElem?_toArray]; rfl
        case eb108s =>
          obtain ⟨t, ht1, ht2⟩ := row4P hA hk
          go_simp
          refine hK.out _ _ trivial (fun hHeld => ?_)
          clear hK K ht2
          try simp only [Act.put, List.setIfInBounds_toArray, List.set_cons_zero, List.set_cons_succ]
          refine wpAnyH_ready (rs := [7]) (by kernel_rfl) (by simp) ?_
          refine AllReadyH.cons (o := ?eb110o) ?eb110h (fun K hK => ?eb110s) AllReadyH.nil
          case eb110h => rw [List.getElem?_toArray]; rfl
          have hPk := Tryz.pickL hV (by omega) gB 6 [49, 50, 51, 99, 100, 101] rfl hBg hB (by decide) (by decide)
          go_simp
          with_reducible refine Calls.mono hPk ?_
          rintro e ew111 ⟨q, hq0, rfl, hV2, hT2⟩
          have hq : 49 ≤ q ∧ q ≤ 101 := by simp only [List.mem_cons, List.mem_nil_iff, or_false] at hq0; omega
          clear hq0
          go_wp2_with fail
          refine hK.out _ _ trivial (fun hHeld => ?_)
          clear hK K
          replace hA := hT2.block hA hAg
          replace hB := hT2.block hB hBg
          replace hT := hT.trans hT2
          replace hV := hV2
          clear hT2 hV2
          try simp only [Act.put, List.setIfInBounds_toArray, List.set_cons_zero, List.set_cons_succ]
          refine wpAnyH_ready (rs := [8]) (by kernel_rfl) (by simp) ?_
          refine AllReadyH.cons (o := ?eb112o) ?eb112h (fun K hK => ?eb112s) AllReadyH.nil
          case eb112h => rw [List.getElem?_toArray]; rfl
          go_simp
          with_reducible refine Calls.mono (Tryz.repeatF t q (by omega) (by omega) (by rw [ht1.1]; decide) _) ?_
          rintro e ew113 ⟨rfl, hb1⟩
          go_wp2_with fail
          refine hK.out _ _ trivial (fun hHeld => ?_)
          clear hK K
          replace hT := hT.trans (Turns.of hb1 (Nat.le_of_lt hV.lt))
          replace hV := hV.call hb1
          try simp only [Act.put, List.setIfInBounds_toArray, List.set_cons_zero, List.set_cons_succ]
          refine wpAnyH_take (i := 9) (oi := ?et114o) (v := .string ⟨(Lib.repeatL t.data.toList q.toNat).toArray⟩) ?et114h (by kernel_rfl) (by kernel_rfl) (by kernel_rfl) ?et114q (Or.inl ⟨?et114w, ?et114y⟩) (by assumption) ?et114r
          case et114h => rw [List.getElem?_toArray]; rfl
          case et114q => exact fun _ _ _ h => h
          case et114w => rfl
          case et114y =>
            intro w hSw
            go_simp
          simp only [Act.put, List.setIfInBounds_toArray, List.set_cons_zero, List.set_cons_succ]
          refine wpAnyH_done (by kernel_rfl) ?_ _
          go_wp2_with fail
          go_ret
          exact ⟨_, _, rep_print t q ht1 hq.2, by omega, rfl, hV, hT⟩
        case eb109s =>
          have hPk := Tryz.pickL hV (by omega) gB 6 [49, 50, 51, 99, 100, 101] rfl hBg hB (by decide) (by decide)
          go_simp
          with_reducible refine Calls.mono hPk ?_
          rintro e ew115 ⟨q, hq0, rfl, hV2, hT2⟩
          have hq : 49 ≤ q ∧ q ≤ 101 := by simp only [List.mem_cons, List.mem_nil_iff, or_false] at hq0; omega
          clear hq0
          go_wp2_with fail
          refine hK.out _ _ trivial (fun hHeld => ?_)
          clear hK K
          replace hA := hT2.block hA hAg
          replace hB := hT2.block hB hBg
          replace hT := hT.trans hT2
          replace hV := hV2
          clear hT2 hV2
          try simp only [Act.put, List.setIfInBounds_toArray, List.set_cons_zero, List.set_cons_succ]
          refine wpAnyH_ready (rs := [4]) (by kernel_rfl) (by simp) ?_
          refine AllReadyH.cons (o := ?eb116o) ?eb116h (fun K hK => ?eb116s) AllReadyH.nil
          case eb116h => rw [List.getElem?_toArray]; rfl
          obtain ⟨t, ht1, ht2⟩ := row4P hA hk
          go_simp
          refine hK.out _ _ trivial (fun hHeld => ?_)
          clear hK K ht2
          try simp only [Act.put, List.setIfInBounds_toArray, List.set_cons_zero, List.set_cons_succ]
          refine wpAnyH_ready (rs := [8]) (by kernel_rfl) (by simp) ?_
          refine AllReadyH.cons (o := ?eb117o) ?eb117h (fun K hK => ?eb117s) AllReadyH.nil
          case eb117h => rw [List.getElem?_toArray]; rfl
          go_simp
          with_reducible refine Calls.mono (Tryz.repeatF t q (by omega) (by omega) (by rw [ht1.1]; decide) _) ?_
          rintro e ew118 ⟨rfl, hb1⟩
          go_wp2_with fail
          refine hK.out _ _ trivial (fun hHeld => ?_)
          clear hK K
          replace hT := hT.trans (Turns.of hb1 (Nat.le_of_lt hV.lt))
          replace hV := hV.call hb1
          try simp only [Act.put, List.setIfInBounds_toArray, List.set_cons_zero, List.set_cons_succ]
          refine wpAnyH_take (i := 9) (oi := ?et119o) (v := .string ⟨(Lib.repeatL t.data.toList q.toNat).toArray⟩) ?et119h (by kernel_rfl) (by kernel_rfl) (by kernel_rfl) ?et119q (Or.inl ⟨?et119w, ?et119y⟩) (by assumption) ?et119r
          case et119h => rw [List.getElem?_toArray]; rfl
          case et119q => exact fun _ _ _ h => h
          case et119w => rfl
          case et119y =>
            intro w hSw
            go_simp
          simp only [Act.put, List.setIfInBounds_toArray, List.set_cons_zero, List.set_cons_succ]
          refine wpAnyH_done (by kernel_rfl) ?_ _
          go_wp2_with fail
          go_ret
          exact ⟨_, _, rep_print t q ht1 hq.2, by omega, rfl, hV, hT⟩
      case eb103s =>
        go_simp
        with_reducible refine Calls.mono (Tryz.nextL hV (by omega) _ (by omega) (by omega)) ?_
        rintro e ew120 ⟨r, hr1, hr2, rfl, hV2, hT2⟩
        obtain ⟨k, rfl⟩ := Int.eq_ofNat_of_zero_le hr1
        have hk : k < 4 := by omega
        clear hr1 hr2
        go_wp2_with fail
        refine hK.out _ _ trivial (fun hHeld => ?_)
        clear hK K
        replace hB := hT2.block hB hBg
        replace hT := hT.trans hT2
        replace hV := hV2
        clear hT2 hV2
        try simp only [Act.put, List.setIfInBounds_toArray, List.set_cons_zero, List.set_cons_succ]
        refine wpAnyH_ready (rs := [0, 7]) (by kernel_rfl) (by simp) ?_
        refine AllReadyH.cons (o := ?eb121o) ?eb121h (fun K hK => ?eb121s) (AllReadyH.cons (o := ?eb122o) ?eb122h (fun K hK => ?eb122s) AllReadyH.nil)
        case eb121h => rw [List.getElem?_toArray]; rfl
        case eb122h => rw [List.getElem?_toArray]; rfl
        case eb121s =>
          go_simp
          refine hK.out _ _ trivial (fun hHeld => ?_)
          clear hK K
          have hA := heap_alloc_new ew120 (.cells #[.string ⟨#[97]⟩, .string ⟨#[39]⟩, .string ⟨#[92]⟩, .string ⟨#[37]⟩] 9)
          have hAg : ew120.heap.size ≠ g := Ne.symm (Nat.ne_of_lt hV.lt)
          replace hB := (heap_alloc_old ew120 (.cells #[.string ⟨#[97]⟩, .string ⟨#[39]⟩, .string ⟨#[92]⟩, .string ⟨#[37]⟩] 9) (blk_lt hB)).trans hB
          replace hT := hT.trans (Turns.new (.cells #[.string ⟨#[97]⟩, .string ⟨#[39]⟩, .string ⟨#[92]⟩, .string ⟨#[37]⟩] 9) (Nat.le_of_lt hV.lt))
          replace hV := hV.alloc (.cells #[.string ⟨#[97]⟩, .string ⟨#[39]⟩, .string ⟨#[92]⟩, .string ⟨#[37]⟩] 9)
          try simp only [Act.put, List.setIfInBounds_toArray, List.set_cons_zero, List.set_cons_succ]
          generalize (World.heap ew120).size = gA at hA hAg ⊢
          generalize World.alloc ew120 (.cells #[.string ⟨#[97]⟩, .string ⟨#[39]⟩, .string ⟨#[92]⟩, .string ⟨#[37]⟩] 9) = ew123 at hV hT hA hB ⊢
          refine wpAnyH_take (i := 3) (oi := ?et124o) (v := .pointer (some ⟨gA, k, none⟩)) ?et124h (by kernel_rfl) (by kernel_rfl) (by kernel_rfl) ?et124q (Or.inl ⟨?et124w, ?et124y⟩) (by assumption) ?et124r
          case et124h => rw [List.getElem?_toArray]; rfl
          case et124q => exact fun _ _ _ h => h
          case et124w => rfl
          case et124y =>
            intro w hSw
            go_simp
            intro hk4
            exfalso
            omega
          simp only [Act.put, List.setIfInBounds_toArray, List.set_cons_zero, List.set_cons_succ]
          refine wpAnyH_ready (rs := [4, 7]) (by kernel_rfl) (by simp) ?_
          refine AllReadyH.cons (o := ?eb125o) ?eb125h (fun K hK => ?eb125s) (AllReadyH.cons (o := ?eb126o) ?eb126h (fun K hK => ?eb126s) AllReadyH.nil)
          case eb125h => rw [List.getElem?_toArray]; rfl
          case eb126h => rw [List.getElem?_toArray]; rfl
          case eb125s =>
            obtain ⟨t, ht1, ht2⟩ := row4P hA hk
            go_simp
            refine hK.out _ _ trivial (fun hHeld => ?_)
            clear hK K ht2
            try simp only [Act.put, List.setIfInBounds_toArray, List.set_cons_zero, List.set_cons_succ]
            refine wpAnyH_ready (rs := [7]) (by kernel_rfl) (by simp) ?_
            refine AllReadyH.cons (o := ?eb127o) ?eb127h (fun K hK => ?eb127s) AllReadyH.nil
            case eb127h => rw [List.getElem?_toArray]; rfl
            have hPk := Tryz.pickL hV (by omega) gB 6 [49, 50, 51, 99, 100, 101] rfl hBg hB (by decide) (by decide)
            go_simp
            with_reducible refine Calls.mono hPk ?_
            rintro e ew128 ⟨q, hq0, rfl, hV2, hT2⟩
            have hq : 49 ≤ q ∧ q ≤ 101 := by simp only [List.mem_cons, List.mem_nil_iff, or_false] at hq0; omega
            clear hq0
            go_wp2_with fail
            refine hK.out _ _ trivial (fun hHeld => ?_)
            clear hK K
            replace hA := hT2.block hA hAg
            replace hB := hT2.block hB hBg
            replace hT := hT.trans hT2
            replace hV := hV2
            clear hT2 hV2
            try simp only [Act.put, List.setIfInBounds_toArray, List.set_cons_zero, List.set_cons_succ]
            refine wpAnyH_ready (rs := [8]) (by kernel_rfl) (by simp) ?_
            refine AllReadyH.cons (o := ?eb129o) ?eb129h (fun K hK => ?eb129s) AllReadyH.nil
            case eb129h => rw [List.getElem?_toArray]; rfl
            go_simp
            with_reducible refine Calls.mono (Tryz.repeatF t q (by omega) (by omega) (by rw [ht1.1]; decide) _) ?_
            rintro e ew130 ⟨rfl, hb1⟩
            go_wp2_with fail
            refine hK.out _ _ trivial (fun hHeld => ?_)
            clear hK K
            replace hT := hT.trans (Turns.of hb1 (Nat.le_of_lt hV.lt))
            replace hV := hV.call hb1
            try simp only [Act.put, List.setIfInBounds_toArray, List.set_cons_zero, List.set_cons_succ]
            refine wpAnyH_take (i := 9) (oi := ?et131o) (v := .string ⟨(Lib.repeatL t.data.toList q.toNat).toArray⟩) ?et131h (by kernel_rfl) (by kernel_rfl) (by kernel_rfl) ?et131q (Or.inl ⟨?et131w, ?et131y⟩) (by assumption) ?et131r
            case et131h => rw [List.getElem?_toArray]; rfl
            case et131q => exact fun _ _ _ h => h
            case et131w => rfl
            case et131y =>
              intro w hSw
              go_simp
            simp only [Act.put, List.setIfInBounds_toArray, List.set_cons_zero, List.set_cons_succ]
            refine wpAnyH_done (by kernel_rfl) ?_ _
            go_wp2_with fail
            go_ret
            exact ⟨_, _, rep_print t q ht1 hq.2, by omega, rfl, hV, hT⟩
          case eb126s =>
            have hPk := Tryz.pickL hV (by omega) gB 6 [49, 50, 51, 99, 100, 101] rfl hBg hB (by decide) (by decide)
            go_simp
            with_reducible refine Calls.mono hPk ?_
            rintro e ew132 ⟨q, hq0, rfl, hV2, hT2⟩
            have hq : 49 ≤ q ∧ q ≤ 101 := by simp only [List.mem_cons, List.mem_nil_iff, or_false] at hq0; omega
            clear hq0
            go_wp2_with fail
            refine hK.out _ _ trivial (fun hHeld => ?_)
            clear hK K
            replace hA := hT2.block hA hAg
            replace hB := hT2.block hB hBg
            replace hT := hT.trans hT2
            replace hV := hV2
            clear hT2 hV2
            try simp only [Act.put, List.setIfInBounds_toArray, List.set_cons_zero, List.set_cons_succ]
            refine wpAnyH_ready (rs := [4]) (by kernel_rfl) (by simp) ?_
            refine AllReadyH.cons (o := ?eb133o) ?eb133h (fun K hK => ?eb133s) AllReadyH.nil
            case eb133h => rw [List.getElem?_toArray]; rfl
            obtain ⟨t, ht1, ht2⟩ := row4P hA hk
            go_simp
            refine hK.out _ _ trivial (fun hHeld => ?_)
            clear hK K ht2
            try simp only [Act.put, List.setIfInBounds_toArray, List.set_cons_zero, List.set_cons_succ]
            refine wpAnyH_ready (rs := [8]) (by kernel_rfl) (by simp) ?_
            refine AllReadyH.cons (o := ?eb134o) ?eb134h (fun K hK => ?eb134s) AllReadyH.nil
            case eb134h => rw [List.getElem?_toArray]; rfl
            go_simp
            with_reducible refine Calls.mono (Tryz.repeatF t q (by omega) (by omega) (by rw [ht1.1]; decide) _) ?_
            rintro e ew135 ⟨rfl, hb1⟩
            go_wp2_with fail
            refine hK.out _ _ trivial (fun hHeld => ?_)
            clear hK K
            replace hT := hT.trans (Turns.of hb1 (Nat.le_of_lt hV.lt))
            replace hV := hV.call hb1
            try simp only [Act.put, List.setIfInBounds_toArray, List.set_cons_zero, List.set_cons_succ]
            refine wpAnyH_take (i := 9) (oi := ?et136o) (v := .string ⟨(Lib.repeatL t.data.toList q.toNat).toArray⟩) ?et136h (by kernel_rfl) (by kernel_rfl) (by kernel_rfl) ?et136q (Or.inl ⟨?et136w, ?et136y⟩) (by assumption) ?et136r
            case et136h => rw [List.getElem?_toArray]; rfl
            case et136q => exact fun _ _ _ h => h
            case et136w => rfl
            case et136y =>
              intro w hSw
              go_simp
            simp only [Act.put, List.setIfInBounds_toArray, List.set_cons_zero, List.set_cons_succ]
            refine wpAnyH_done (by kernel_rfl) ?_ _
            go_wp2_with fail
            go_ret
            exact ⟨_, _, rep_print t q ht1 hq.2, by omega, rfl, hV, hT⟩
        case eb122s =>
          have hPk := Tryz.pickL hV (by omega) gB 6 [49, 50, 51, 99, 100, 101] rfl hBg hB (by decide) (by decide)
          go_simp
          with_reducible refine Calls.mono hPk ?_
          rintro e ew137 ⟨q, hq0, rfl, hV2, hT2⟩
          have hq : 49 ≤ q ∧ q ≤ 101 := by simp only [List.mem_cons, List.mem_nil_iff, or_false] at hq0; omega
          clear hq0
          go_wp2_with fail
          refine hK.out _ _ trivial (fun hHeld => ?_)
          clear hK K
          replace hB := hT2.block hB hBg
          replace hT := hT.trans hT2
          replace hV := hV2
          clear hT2 hV2
          try simp only [Act.put, List.setIfInBounds_toArray, List.set_cons_zero, List.set_cons_succ]
          refine wpAnyH_ready (rs := [0]) (by kernel_rfl) (by simp) ?_
          refine AllReadyH.cons (o := ?eb138o) ?eb138h (fun K hK => ?eb138s) AllReadyH.nil
          case eb138h => rw [List.getElem?_toArray]; rfl
          go_simp
          refine hK.out _ _ trivial (fun hHeld => ?_)
          clear hK K
          have hA := heap_alloc_new ew137 (.cells #[.string ⟨#[97]⟩, .string ⟨#[39]⟩, .string ⟨#[92]⟩, .string ⟨#[37]⟩] 9)
          have hAg : ew137.heap.size ≠ g := Ne.symm (Nat.ne_of_lt hV.lt)
          replace hB := (heap_alloc_old ew137 (.cells #[.string ⟨#[97]⟩, .string ⟨#[39]⟩, .string ⟨#[92]⟩, .string ⟨#[37]⟩] 9) (blk_lt hB)).trans hB
          replace hT := hT.trans (Turns.new (.cells #[.string ⟨#[97]⟩, .string ⟨#[39]⟩, .string ⟨#[92]⟩, .string ⟨#[37]⟩] 9) (Nat.le_of_lt hV.lt))
          replace hV := hV.alloc (.cells #[.string ⟨#[97]⟩, .string ⟨#[39]⟩, .string ⟨#[92]⟩, .string ⟨#[37]⟩] 9)
          try simp only [Act.put, List.setIfInBounds_toArray, List.set_cons_zero, List.set_cons_succ]
          generalize (World.heap ew137).size = gA at hA hAg ⊢
          generalize World.alloc ew137 (.cells #[.string ⟨#[97]⟩, .string ⟨#[39]⟩, .string ⟨#[92]⟩, .string ⟨#[37]⟩] 9) = ew139 at hV hT hA hB ⊢
          refine wpAnyH_take (i := 3) (oi := ?et140o) (v := .pointer (some ⟨gA, k, none⟩)) ?et140h (by kernel_rfl) (by kernel_rfl) (by kernel_rfl) ?et140q (Or.inl ⟨?et140w, ?et140y⟩) (by assumption) ?et140r
          case et140h => rw [List.getElem?_toArray]; rfl
          case et140q => exact fun _ _ _ h => h
          case et140w => rfl
          case et140y =>
            intro w hSw
            go_simp
            intro hk4
            exfalso
            omega
          simp only [Act.put, List.setIfInBounds_toArray, List.set_cons_zero, List.set_cons_succ]
          refine wpAnyH_ready (rs := [4]) (by kernel_rfl) (by simp) ?_
          refine AllReadyH.cons (o := ?eb141o) ?eb141h (fun K hK => ?eb141s) AllReadyH.nil
          case eb141h => rw [List.getElem?_toArray]; rfl
          obtain ⟨t, ht1, ht2⟩ := row4P hA hk
          go_simp
          refine hK.out _ _ trivial (fun hHeld => ?_)
          clear hK K ht2
          try simp only [Act.put, List.setIfInBounds_toArray, List.set_cons_zero, List.set_cons_succ]
          refine wpAnyH_ready (rs := [8]) (by kernel_rfl) (by simp) ?_
          refine AllReadyH.cons (o := ?eb142o) ?eb142h (fun K hK => ?eb142s) AllReadyH.nil
          case eb142h => rw [List.getElem?_toArray]; rfl
          go_simp
          with_reducible refine Calls.mono (Tryz.repeatF t q (by omega) (by omega) (by rw [ht1.1]; decide) _) ?_
          rintro e ew143 ⟨rfl, hb1⟩
          go_wp2_with fail
          refine hK.out _ _ trivial (fun hHeld => ?_)
          clear hK K
          replace hT := hT.trans (Turns.of hb1 (Nat.le_of_lt hV.lt))
          replace hV := hV.call hb1
          try simp only [Act.put, List.setIfInBounds_toArray, List.set_cons_zero, List.set_cons_succ]
          refine wpAnyH_take (i := 9) (oi := ?et144o) (v := .string ⟨(Lib.repeatL t.data.toList q.toNat).toArray⟩) ?et144h (by kernel_rfl) (by kernel_rfl) (by kernel_rfl) ?et144q (Or.inl ⟨?et144w, ?et144y⟩) (by assumption) ?et144r
          case et144h => rw [List.getElem?_toArray]; rfl
          case et144q => exact fun _ _ _ h => h
          case et144w => rfl
          case et144y =>
            intro w hSw
            go_simp
          simp only [Act.put, List.setIfInBounds_toArray, List.set_cons_zero, List.set_cons_succ]
          refine wpAnyH_done (by kernel_rfl) ?_ _
          go_wp2_with fail
          go_ret
          exact ⟨_, _, rep_print t q ht1 hq.2, by omega, rfl, hV, hT⟩
  | false =>
    go_wp2_with fail
    have hP := heap_alloc_new w1 (.cells #[.string ⟨#[97]⟩, .string ⟨#[98]⟩, .string ⟨#[97, 98]⟩, .string ⟨#[]⟩, .string ⟨#[65]⟩, .string ⟨#[37]⟩, .string ⟨#[95]⟩, .string ⟨#[92]⟩, .string ⟨#[39]⟩, .string ⟨#[32]⟩, .string ⟨#[48]⟩, .string ⟨#[49, 50]⟩, .string ⟨#[45, 51]⟩, .string ⟨#[116, 114, 117, 101]⟩, .string ⟨#[120, 44, 121]⟩, .string ⟨#[40]⟩, .string ⟨#[50, 48, 48, 48, 45, 48, 50, 45, 50, 57, 84, 48, 48, 58, 48, 48, 58, 48, 48]⟩] 9)
    have hPg : w1.heap.size ≠ g := Ne.symm (Nat.ne_of_lt hV.lt)
    replace hT := hT.trans (Turns.new (.cells #[.string ⟨#[97]⟩, .string ⟨#[98]⟩, .string ⟨#[97, 98]⟩, .string ⟨#[]⟩, .string ⟨#[65]⟩, .string ⟨#[37]⟩, .string ⟨#[95]⟩, .string ⟨#[92]⟩, .string ⟨#[39]⟩, .string ⟨#[32]⟩, .string ⟨#[48]⟩, .string ⟨#[49, 50]⟩, .string ⟨#[45, 51]⟩, .string ⟨#[116, 114, 117, 101]⟩, .string ⟨#[120, 44, 121]⟩, .string ⟨#[40]⟩, .string ⟨#[50, 48, 48, 48, 45, 48, 50, 45, 50, 57, 84, 48, 48, 58, 48, 48, 58, 48, 48]⟩] 9) (Nat.le_of_lt hV.lt))
    replace hV := hV.alloc (.cells #[.string ⟨#[97]⟩, .string ⟨#[98]⟩, .string ⟨#[97, 98]⟩, .string ⟨#[]⟩, .string ⟨#[65]⟩, .string ⟨#[37]⟩, .string ⟨#[95]⟩, .string ⟨#[92]⟩, .string ⟨#[39]⟩, .string ⟨#[32]⟩, .string ⟨#[48]⟩, .string ⟨#[49, 50]⟩, .string ⟨#[45, 51]⟩, .string ⟨#[116, 114, 117, 101]⟩, .string ⟨#[120, 44, 121]⟩, .string ⟨#[40]⟩, .string ⟨#[50, 48, 48, 48, 45, 48, 50, 45, 50, 57, 84, 48, 48, 58, 48, 48, 58, 48, 48]⟩] 9)
    generalize (World.heap w1).size = gP at hP hPg ⊢
    generalize World.alloc w1 (.cells #[.string ⟨#[97]⟩, .string ⟨#[98]⟩, .string ⟨#[97, 98]⟩, .string ⟨#[]⟩, .string ⟨#[65]⟩, .string ⟨#[37]⟩, .string ⟨#[95]⟩, .string ⟨#[92]⟩, .string ⟨#[39]⟩, .string ⟨#[32]⟩, .string ⟨#[48]⟩, .string ⟨#[49, 50]⟩, .string ⟨#[45, 51]⟩, .string ⟨#[116, 114, 117, 101]⟩, .string ⟨#[120, 44, 121]⟩, .string ⟨#[40]⟩, .string ⟨#[50, 48, 48, 48, 45, 48, 50, 45, 50, 57, 84, 48, 48, 58, 48, 48, 58, 48, 48]⟩] 9) = W1 at hV hT hP ⊢
    refine (Tryz.rangeL hV (by omega) _ _ (by omega) (by omega) (by omega)).mono ?_
    rintro e W2 ⟨r, hr1, hr2, rfl, hV2, hT2⟩
    replace hP := hT2.block hP hPg
    replace hT := hT.trans hT2
    go_wp2_with fail
    go_loopw [4, 19] (fun t i wr => ∃ (j : Nat) (s : ByteArray) (b : Int), t = .string s ∧ i = .int .i64 j ∧ (j : Int) ≤ r ∧ (s.size ≤ 19 * j ∧ printB s = true) ∧ b ≤ a + 2 + j ∧ Live wr g N ad zs cap b ∧ Turns g w wr ∧ wr.heap[gP]? = some (.cells #[.string ⟨#[97]⟩, .string ⟨#[98]⟩, .string ⟨#[97, 98]⟩, .string ⟨#[]⟩, .string ⟨#[65]⟩, .string ⟨#[37]⟩, .string ⟨#[95]⟩, .string ⟨#[92]⟩, .string ⟨#[39]⟩, .string ⟨#[32]⟩, .string ⟨#[48]⟩, .string ⟨#[49, 50]⟩, .string ⟨#[45, 51]⟩, .string ⟨#[116, 114, 117, 101]⟩, .string ⟨#[120, 44, 121]⟩, .string ⟨#[40]⟩, .string ⟨#[50, 48, 48, 48, 45, 48, 50, 45, 50, 57, 84, 48, 48, 58, 48, 48, 58, 48, 48]⟩] 9)) (fun _ i _ => (4 - intOf i).toNat)
    case atStart => exact ⟨0, ⟨#[]⟩, _, rfl, rfl, by omega, ⟨by decide, by decide⟩, by omega, hV2, hT, hP⟩
    case round =>
      obtain ⟨j, s, b, rfl, rfl, hj, hsj, hbj, hVr, hTr, hPr⟩ := hrel
      clear hV hT hP hV2 hT2 h
      by_cases hlt : (j : Int) < r
      · go_wp2_with fail
        refine (Tryz.nextL hVr (by omega) _ (by omega) (by omega)).mono ?_
        rintro e W3 ⟨q, hq1, hq2, rfl, hV3, hT3⟩
        obtain ⟨k, rfl⟩ := Int.eq_ofNat_of_zero_le hq1
        have hk : k < 17 := by omega
        replace hPr := hT3.block hPr hPg
        obtain ⟨t, ht1, ht2⟩ := row17P hPr hk
        go_wp2_with fail
        go_roundw
        case rel => exact ⟨j + 1, s ++ t, _, rfl, by go_num, by omega, ⟨by have := hsj.1; have := ht1.1; simp; omega, print_append hsj.2 ht1.2⟩, by omega, hV3, hTr.trans hT3, hPr⟩
        case measure => simp [intOf]; omega
      · go_wp2_with fail
        go_ret
        exact ⟨s, ⟨by have := hsj.1; omega, hsj.2⟩, b, by omega, rfl, hVr, hTr⟩

set_option maxRecDepth 20000 in
set_option maxHeartbeats 4000000 in
theorem Tryz.fullP {w : World} {g N : Nat} {ad : Option Addr} {zs : List Int} {cap : Nat} {a : Int} (h : Live w g N ad zs cap a) (ha : a < 90000) (k : Int) (hk : 1 ≤ k ∧ k ≤ 4) :
    Calls Tryz.prog 15 #[.pointer (some ⟨g, 0, none⟩), .int .i64 k] w fun e w' => ∃ (x : Val) (b : Int), x.k = k ∧ x.fine = true ∧ b ≤ a + 6 ∧ e = .returned x.v ∧ Live w' g N ad zs cap b ∧ Turns g w w' := by
  have hg := h.lt
  have hF0 := FAt.start k hg
  have hV0 := (h.alloc (.cells #[.int .i64 0, .int .i64 0, .string ⟨#[]⟩] 23)).alloc (.cells #[.int .i64 k, .int .i64 0, .string ⟨#[]⟩] 23)
  rcases (show k = 1 ∨ k = 2 ∨ k = 3 ∨ k = 4 by omega) with rfl | rfl | rfl | rfl
  · go_enter Tryz.func15, Tryz.ntmps15
    go_wp2_with fail
    generalize ((w.alloc (.cells #[.int .i64 0, .int .i64 0, .string ⟨#[]⟩] 23)).alloc (.cells #[.int .i64 1, .int .i64 0, .string ⟨#[]⟩] 23)) = W0 at hF0 hV0 ⊢
    refine (Tryz.nextL hV0 (by omega) _ (by omega) (by omega)).mono ?_
    rintro e W1 ⟨r, hr1, hr2, rfl, hV1, hT1⟩
    have hF1 := hF0.turn hg hT1
    obtain ⟨⟨c0, c1, c2⟩, f0, f1, f2⟩ := hF1.cells
    go_upto_region 12 with fail
    have hF2 := hF1.setN r hg
    have hV2 := hV1.set (i := 1) (v := .int .i64 r) (Nat.lt_succ_of_lt hg)
    clear c0 c1 c2 f0 f1 f2 hF1 hV1 hF0 hV0 hT1
    generalize W1.setCell ⟨w.heap.size + 1, 1, none⟩ (.int .i64 r) = W2 at hF2 hV2 ⊢
    have hV3 := ((hV2.set (i := 0) (v := .int .i64 (⟨1, r, ⟨#[]⟩⟩ : Val).k) hg).set (i := 1) (v := .int .i64 (⟨1, r, ⟨#[]⟩⟩ : Val).n) hg).set (i := 2) (v := .string (⟨1, r, ⟨#[]⟩⟩ : Val).s) hg
    have hT3 := ((hF2.turns.set (i := 0) (v := .int .i64 (⟨1, r, ⟨#[]⟩⟩ : Val).k) (Nat.le_refl _) (Nat.le_of_lt hg)).set (i := 1) (v := .int .i64 (⟨1, r, ⟨#[]⟩⟩ : Val).n) (Nat.le_refl _) (Nat.le_of_lt hg)).set (i := 2) (v := .string (⟨1, r, ⟨#[]⟩⟩ : Val).s) (Nat.le_refl _) (Nat.le_of_lt hg)
    obtain ⟨⟨c0, c1, c2⟩, f0, f1, f2⟩ := hF2.cells
    obtain ⟨⟨z0, z1, z2⟩, y0, y1, y2⟩ := free_zero hF2.res
    go_wp2_with fail
    exact bodyPost_ret (res_box Tryz.results15 rfl (set3_block ⟨1, r, ⟨#[]⟩⟩ hF2.res)) rfl (by first | exact ⟨⟨1, r, ⟨#[]⟩⟩, rfl, fine1 (by omega) (by omega), _, by omega, rfl, hV3, hT3⟩ | exact ⟨⟨1, r, ⟨#[]⟩⟩, _, rfl, fine1 (by omega) (by omega), by omega, rfl, hV3, hT3⟩)
  · go_enter Tryz.func15, Tryz.ntmps15
    go_wp2_with fail
    generalize ((w.alloc (.cells #[.int .i64 0, .int .i64 0, .string ⟨#[]⟩] 23)).alloc (.cells #[.int .i64 2, .int .i64 0, .string ⟨#[]⟩] 23)) = W0 at hF0 hV0 ⊢
    refine (Tryz.intL hV0 (by omega)).mono ?_
    rintro e W1 ⟨r, hr1, hr2, rfl, hV1, hT1⟩
    have hF1 := hF0.turn hg hT1
    obtain ⟨⟨c0, c1, c2⟩, f0, f1, f2⟩ := hF1.cells
    go_upto_region 12 with fail
    all_goals clear c0 c1 c2 f0 f1 f2 hF0 hV0 hT1
    all_goals first
      | (have hF2 := hF1.setN (min (max r (-999999999999999)) 999999999999999) hg
         have hV2 := hV1.set (i := 1) (v := .int .i64 (min (max r (-999999999999999)) 999999999999999)) (Nat.lt_succ_of_lt hg)
         generalize W1.setCell ⟨w.heap.size + 1, 1, none⟩ (.int .i64 (min (max r (-999999999999999)) 999999999999999)) = W2 at hF2 hV2 ⊢
         have hV3 := ((hV2.set (i := 0) (v := .int .i64 (⟨2, min (max r (-999999999999999)) 999999999999999, ⟨#[]⟩⟩ : Val).k) hg).set (i := 1) (v := .int .i64 (⟨2, min (max r (-999999999999999)) 999999999999999, ⟨#[]⟩⟩ : Val).n) hg).set (i := 2) (v := .string (⟨2, min (max r (-999999999999999)) 999999999999999, ⟨#[]⟩⟩ : Val).s) hg
         have hT3 := ((hF2.turns.set (i := 0) (v := .int .i64 (⟨2, min (max r (-999999999999999)) 999999999999999, ⟨#[]⟩⟩ : Val).k) (Nat.le_refl _) (Nat.le_of_lt hg)).set (i := 1) (v := .int .i64 (⟨2, min (max r (-999999999999999)) 999999999999999, ⟨#[]⟩⟩ : Val).n) (Nat.le_refl _) (Nat.le_of_lt hg)).set (i := 2) (v := .string (⟨2, min (max r (-999999999999999)) 999999999999999, ⟨#[]⟩⟩ : Val).s) (Nat.le_refl _) (Nat.le_of_lt hg)
         obtain ⟨⟨c0, c1, c2⟩, f0, f1, f2⟩ := hF2.cells
         obtain ⟨⟨z0, z1, z2⟩, y0, y1, y2⟩ := free_zero hF2.res
         go_wp2_with fail
         exact bodyPost_ret (res_box Tryz.results15 rfl (set3_block ⟨2, min (max r (-999999999999999)) 999999999999999, ⟨#[]⟩⟩ hF2.res)) rfl (by first | exact ⟨⟨2, min (max r (-999999999999999)) 999999999999999, ⟨#[]⟩⟩, rfl, fine2 (by omega) (by omega), _, by omega, rfl, hV3, hT3⟩ | exact ⟨⟨2, min (max r (-999999999999999)) 999999999999999, ⟨#[]⟩⟩, _, rfl, fine2 (by omega) (by omega), by omega, rfl, hV3, hT3⟩))
  · go_enter Tryz.func15, Tryz.ntmps15
    go_wp2_with fail
    generalize ((w.alloc (.cells #[.int .i64 0, .int .i64 0, .string ⟨#[]⟩] 23)).alloc (.cells #[.int .i64 3, .int .i64 0, .string ⟨#[]⟩] 23)) = W0 at hF0 hV0 ⊢
    refine (Tryz.textP hV0 (by omega)).mono ?_
    rintro e W1 ⟨s, b, ⟨hs, hp⟩, hb, rfl, hV1, hT1⟩
    have hF1 := hF0.turn hg hT1
    obtain ⟨⟨c0, c1, c2⟩, f0, f1, f2⟩ := hF1.cells
    go_upto_region 10 with fail
    have hF2 := hF1.setS s hg
    have hV2 := hV1.set (i := 2) (v := .string s) (Nat.lt_succ_of_lt hg)
    clear c0 c1 c2 f0 f1 f2 hF1 hV1 hF0 hV0 hT1
    generalize W1.setCell ⟨w.heap.size + 1, 2, none⟩ (.string s) = W2 at hF2 hV2 ⊢
    obtain ⟨⟨c0, c1, c2⟩, f0, f1, f2⟩ := hF2.cells
    by_cases hl : s.size ≤ 100
    · have hlt : ¬ (100 : Int) < s.size := by omega
      go_upto_region 12 with fail
      clear c0 c1 c2 f0 f1 f2
      have hV3 := ((hV2.set (i := 0) (v := .int .i64 (⟨3, 0, s⟩ : Val).k) hg).set (i := 1) (v := .int .i64 (⟨3, 0, s⟩ : Val).n) hg).set (i := 2) (v := .string (⟨3, 0, s⟩ : Val).s) hg
      have hT3 := ((hF2.turns.set (i := 0) (v := .int .i64 (⟨3, 0, s⟩ : Val).k) (Nat.le_refl _) (Nat.le_of_lt hg)).set (i := 1) (v := .int .i64 (⟨3, 0, s⟩ : Val).n) (Nat.le_refl _) (Nat.le_of_lt hg)).set (i := 2) (v := .string (⟨3, 0, s⟩ : Val).s) (Nat.le_refl _) (Nat.le_of_lt hg)
      obtain ⟨⟨c0, c1, c2⟩, f0, f1, f2⟩ := hF2.cells
      obtain ⟨⟨z0, z1, z2⟩, y0, y1, y2⟩ := free_zero hF2.res
      go_wp2_with fail
      exact bodyPost_ret (res_box Tryz.results15 rfl (set3_block ⟨3, 0, s⟩ hF2.res)) rfl (by first | exact ⟨⟨3, 0, s⟩, rfl, fine3 (by omega) hp, _, by omega, rfl, hV3, hT3⟩ | exact ⟨⟨3, 0, s⟩, _, rfl, fine3 (by omega) hp, by omega, rfl, hV3, hT3⟩)
    · have hlt : (100 : Int) < s.size := by omega
      go_upto_region 12 with fail
      have hF3 := hF2.setS (s.extract 0 100) hg
      have hV4 := hV2.set (i := 2) (v := .string (s.extract 0 100)) (Nat.lt_succ_of_lt hg)
      clear c0 c1 c2 f0 f1 f2 hF2 hV2
      generalize W2.setCell ⟨w.heap.size + 1, 2, none⟩ (.string (s.extract 0 100)) = W3 at hF3 hV4 ⊢
      have hF2 := hF3
      have hV2 := hV4
      have hV3 := ((hV2.set (i := 0) (v := .int .i64 (⟨3, 0, s.extract 0 100⟩ : Val).k) hg).set (i := 1) (v := .int .i64 (⟨3, 0, s.extract 0 100⟩ : Val).n) hg).set (i := 2) (v := .string (⟨3, 0, s.extract 0 100⟩ : Val).s) hg
      have hT3 := ((hF2.turns.set (i := 0) (v := .int .i64 (⟨3, 0, s.extract 0 100⟩ : Val).k) (Nat.le_refl _) (Nat.le_of_lt hg)).set (i := 1) (v := .int .i64 (⟨3, 0, s.extract 0 100⟩ : Val).n) (Nat.le_refl _) (Nat.le_of_lt hg)).set (i := 2) (v := .string (⟨3, 0, s.extract 0 100⟩ : Val).s) (Nat.le_refl _) (Nat.le_of_lt hg)
      obtain ⟨⟨c0, c1, c2⟩, f0, f1, f2⟩ := hF2.cells
      obtain ⟨⟨z0, z1, z2⟩, y0, y1, y2⟩ := free_zero hF2.res
      go_wp2_with fail
      exact bodyPost_ret (res_box Tryz.results15 rfl (set3_block ⟨3, 0, s.extract 0 100⟩ hF2.res)) rfl (by first | exact ⟨⟨3, 0, s.extract 0 100⟩, rfl, fine3 (by simp; omega) (print_take hp _), _, by omega, rfl, hV3, hT3⟩ | exact ⟨⟨3, 0, s.extract 0 100⟩, _, rfl, fine3 (by simp; omega) (print_take hp _), by omega, rfl, hV3, hT3⟩)
  · go_enter Tryz.func15, Tryz.ntmps15
    go_wp2_with fail
    generalize ((w.alloc (.cells #[.int .i64 0, .int .i64 0, .string ⟨#[]⟩] 23)).alloc (.cells #[.int .i64 4, .int .i64 0, .string ⟨#[]⟩] 23)) = W0 at hF0 hV0 ⊢
    refine (Tryz.rangeL hV0 (by omega) _ _ (by omega) (by omega) (by omega)).mono ?_
    rintro e W1 ⟨q, hq1, hq2, rfl, hV1, hT1⟩
    have hF1 := hF0.turn hg hT1
    go_wp2_with fail
    have hP := heap_alloc_new W1 (.cells #[.int .i64 0, .int .i64 1, .int .i64 59, .int .i64 86399, .int .i64 86400, .int .i64 951782400, .int .i64 951868799, .int .i64 1709164800, .int .i64 1706659200, .int .i64 253402300799, .int .i64 q] 3)
    have hPg : W1.heap.size ≠ g := Ne.symm (Nat.ne_of_lt hV1.lt)
    replace hF1 := hF1.turn hg (Turns.new (.cells #[.int .i64 0, .int .i64 1, .int .i64 59, .int .i64 86399, .int .i64 86400, .int .i64 951782400, .int .i64 951868799, .int .i64 1709164800, .int .i64 1706659200, .int .i64 253402300799, .int .i64 q] 3) (Nat.le_of_lt hV1.lt))
    replace hV1 := hV1.alloc (.cells #[.int .i64 0, .int .i64 1, .int .i64 59, .int .i64 86399, .int .i64 86400, .int .i64 951782400, .int .i64 951868799, .int .i64 1709164800, .int .i64 1706659200, .int .i64 253402300799, .int .i64 q] 3)
    generalize (World.heap W1).size = gP at hP hPg ⊢
    generalize World.alloc W1 (.cells #[.int .i64 0, .int .i64 1, .int .i64 59, .int .i64 86399, .int .i64 86400, .int .i64 951782400, .int .i64 951868799, .int .i64 1709164800, .int .i64 1706659200, .int .i64 253402300799, .int .i64 q] 3) = W3 at hV1 hF1 hP ⊢
    refine (Tryz.pickL hV1 (by omega) gP 11 [0, 1, 59, 86399, 86400, 951782400, 951868799, 1709164800, 1706659200, 253402300799, q] rfl hPg hP (by simp) (by simp)).mono ?_
    rintro e W4 ⟨r, hr, rfl, hV4, hT4⟩
    have hr' : 0 ≤ r ∧ r ≤ 253402300799 := by simp only [List.mem_cons, List.mem_nil_iff, or_false] at hr; omega
    clear hr
    replace hF1 := hF1.turn hg hT4
    obtain ⟨⟨c0, c1, c2⟩, f0, f1, f2⟩ := hF1.cells
    go_upto_region 12 with fail
    have hF2 := hF1.setN r hg
    have hV2 := hV4.set (i := 1) (v := .int .i64 r) (Nat.lt_succ_of_lt hg)
    clear c0 c1 c2 f0 f1 f2 hF1 hV1 hF0 hV0 hT1 hP hT4 hV4
    generalize W4.setCell ⟨w.heap.size + 1, 1, none⟩ (.int .i64 r) = W2 at hF2 hV2 ⊢
    have hV3 := ((hV2.set (i := 0) (v := .int .i64 (⟨4, r, ⟨#[]⟩⟩ : Val).k) hg).set (i := 1) (v := .int .i64 (⟨4, r, ⟨#[]⟩⟩ : Val).n) hg).set (i := 2) (v := .string (⟨4, r, ⟨#[]⟩⟩ : Val).s) hg
    have hT3 := ((hF2.turns.set (i := 0) (v := .int .i64 (⟨4, r, ⟨#[]⟩⟩ : Val).k) (Nat.le_refl _) (Nat.le_of_lt hg)).set (i := 1) (v := .int .i64 (⟨4, r, ⟨#[]⟩⟩ : Val).n) (Nat.le_refl _) (Nat.le_of_lt hg)).set (i := 2) (v := .string (⟨4, r, ⟨#[]⟩⟩ : Val).s) (Nat.le_refl _) (Nat.le_of_lt hg)
    obtain ⟨⟨c0, c1, c2⟩, f0, f1, f2⟩ := hF2.cells
    obtain ⟨⟨z0, z1, z2⟩, y0, y1, y2⟩ := free_zero hF2.res
    go_wp2_with fail
    exact bodyPost_ret (res_box Tryz.results15 rfl (set3_block ⟨4, r, ⟨#[]⟩⟩ hF2.res)) rfl (by first | exact ⟨⟨4, r, ⟨#[]⟩⟩, rfl, fine4 hr'.1 hr'.2, _, by omega, rfl, hV3, hT3⟩ | exact ⟨⟨4, r, ⟨#[]⟩⟩, _, rfl, fine4 hr'.1 hr'.2, by omega, rfl, hV3, hT3⟩)

end Go.Proofs
