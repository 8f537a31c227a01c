/- Of package dumbmake: texts out of a stream, and full values. No condition. -/
import Derived.Test.YtkpligcifakmjaaGreatDoorGenM
import Derived.Deep.CutRange
namespace Go.Proofs
open Go.RowKit

theorem row4 {W : World} {b k : Nat} (h : W.heap[b]? = some (.cells #[.string ⟨#[97]⟩, .string ⟨#[39]⟩, .string ⟨#[92]⟩, .string ⟨#[37]⟩] 9)) (hk : k < 4) : ∃ t : ByteArray, t.size = 1 ∧ W.cell? ⟨b, k, none⟩ = some (.string t) := by
  rcases (show k = 0 ∨ k = 1 ∨ k = 2 ∨ k = 3 by omega) with rfl | rfl | rfl | rfl
  all_goals exact ⟨_, rfl, by simp [World.cell?, h]; rfl⟩

theorem row17 {W : World} {b k : Nat} (h : W.heap[b]? = some (.cells #[.string ⟨#[97]⟩, .string ⟨#[98]⟩, .string ⟨#[97, 98]⟩, .string ⟨#[]⟩, .string ⟨#[65]⟩, .string ⟨#[37]⟩, .string ⟨#[95]⟩, .string ⟨#[92]⟩, .string ⟨#[39]⟩, .string ⟨#[32]⟩, .string ⟨#[48]⟩, .string ⟨#[49, 50]⟩, .string ⟨#[45, 51]⟩, .string ⟨#[116, 114, 117, 101]⟩, .string ⟨#[120, 44, 121]⟩, .string ⟨#[40]⟩, .string ⟨#[50, 48, 48, 48, 45, 48, 50, 45, 50, 57, 84, 48, 48, 58, 48, 48, 58, 48, 48]⟩] 9)) (hk : k < 17) : ∃ t : ByteArray, t.size ≤ 19 ∧ W.cell? ⟨b, k, none⟩ = some (.string t) := by
  rcases (show k = 0 ∨ k = 1 ∨ k = 2 ∨ k = 3 ∨ k = 4 ∨ k = 5 ∨ k = 6 ∨ k = 7 ∨ k = 8 ∨ k = 9 ∨ k = 10 ∨ k = 11 ∨ k = 12 ∨ k = 13 ∨ k = 14 ∨ k = 15 ∨ k = 16 by omega) with rfl | rfl | rfl | rfl | rfl | rfl | rfl | rfl | rfl | rfl | rfl | rfl | rfl | rfl | rfl | rfl | rfl
  all_goals
    refine ⟨_, ?_, by simp [World.cell?, h]; rfl⟩
    decide

theorem blk_new {g N : Nat} {ad : Option Addr} {zs : List Int} {cap : Nat} {a : Int} {w W : World} (hV : Live W g N ad zs cap a) (hT : Turns g w W) (o : Obj) : (W.alloc o).heap[W.heap.size]? = some o ∧ W.heap.size ≠ g ∧ (∀ {k : Nat} {u : Obj}, W.heap[k]? = some u → (W.alloc o).heap[k]? = some u) ∧ Turns g w (W.alloc o) ∧ Live (W.alloc o) g N ad zs cap a :=
  ⟨heap_alloc_new W o, Ne.symm (Nat.ne_of_lt hV.lt), fun h => (heap_alloc_old W o (blk_lt h)).trans h, hT.trans (Turns.new o (Nat.le_of_lt hV.lt)), hV.alloc o⟩

theorem rep_size (t : ByteArray) (q : Int) (h : t.size = 1) (hq : q ≤ 101) : (⟨(Lib.repeatL t.data.toList q.toNat).toArray⟩ : ByteArray).size ≤ 1000 := by
  rw [Lib.size_eq]
  simp only [Lib.repeatL_length]
  rw [← Lib.size_eq, h]
  omega

set_option maxRecDepth 20000 in
set_option maxHeartbeats 4000000 in
theorem Tryz.textL {w : World} {g N : Nat} {ad : Option Addr} {zs : List Int} {cap : Nat} {a : Int} (h : Live w g N ad zs cap a) (ha : a < 100000) :
    Calls Tryz.prog 156 #[.pointer (some ⟨g, 0, none⟩)] w fun e w' => ∃ (s : ByteArray) (b : Int), s.size ≤ 1000 ∧ b ≤ a + 6 ∧ e = .returned (.string s) ∧ Live w' g N ad zs cap b ∧ Turns g w w' := by
  go_enter Tryz.func156, Tryz.ntmps156
  go_wp2_with fail
  refine (Tryz.flipL h (by omega) _ (by omega) (by omega)).mono ?_
  rintro e w1 ⟨fl, rfl, hV, hT⟩
  cases fl with
  | true =>
    go_wp2_with fail
    refine wp_region_held_drew (S := fun _ => True) (by kernel_rfl) trivial (fun hHeld => ?_)
    replace hV := hV.drew
    replace hT := hT.drew
    generalize World.drew w1 = W0 at hV hT ⊢
    refine wpAnyH_take (i := 1) (oi := ?et1o) (v := .pointer (some ⟨g, 0, none⟩)) ?et1h (by kernel_rfl) (by kernel_rfl) (by kernel_rfl) ?et1q (Or.inl ⟨?et1w, ?et1y⟩) (by assumption) ?et1r
    case et1h => rw [List.getElem?_toArray]; rfl
    case et1q => exact fun _ _ _ h => h
    case et1w => rfl
    case et1y =>
      intro w hSw
      go_simp
    simp only [Act.put, List.setIfInBounds_toArray, List.set_cons_zero, List.set_cons_succ]
    refine wpAnyH_take (i := 5) (oi := ?et2o) (v := .pointer (some ⟨g, 0, none⟩)) ?et2h (by kernel_rfl) (by kernel_rfl) (by kernel_rfl) ?et2q (Or.inl ⟨?et2w, ?et2y⟩) (by assumption) ?et2r
    case et2h => rw [List.getElem?_toArray]; rfl
    case et2q => exact fun _ _ _ h => h
    case et2w => rfl
    case et2y =>
      intro w hSw
      go_simp
    simp only [Act.put, List.setIfInBounds_toArray, List.set_cons_zero, List.set_cons_succ]
    refine wpAnyH_ready (rs := [0, 2, 6]) (by kernel_rfl) (by simp) ?_
    refine AllReadyH.cons (o := ?eb3o) ?eb3h (fun K hK => ?eb3s) (AllReadyH.cons (o := ?eb4o) ?eb4h (fun K hK => ?eb4s) (AllReadyH.cons (o := ?eb5o) ?eb5h (fun K hK => ?eb5s) AllReadyH.nil))
    case eb3h => rw [List.getElem?_toArray]; rfl
    case eb4h => rw [List.getElem?_toArray]; rfl
    case eb5h => rw [List.getElem?_toArray]; rfl
    case eb3s =>
      go_simp
      refine hK.out _ _ trivial (fun hHeld => ?_)
      clear hK K
      obtain ⟨hA, hAg, hO, hT, hV⟩ := blk_new hV hT (.cells #[.string ⟨#[97]⟩, .string ⟨#[39]⟩, .string ⟨#[92]⟩, .string ⟨#[37]⟩] 9)
      clear hO
      try simp only [Act.put, List.setIfInBounds_toArray, List.set_cons_zero, List.set_cons_succ]
      generalize (World.heap W0).size = gA at hA hAg ⊢
      generalize World.alloc W0 _ = ew6 at hV hT hA  ⊢
      refine wpAnyH_ready (rs := [2, 6]) (by kernel_rfl) (by simp) ?_
      refine AllReadyH.cons (o := ?eb7o) ?eb7h (fun K hK => ?eb7s) (AllReadyH.cons (o := ?eb8o) ?eb8h (fun K hK => ?eb8s) AllReadyH.nil)
      case eb7h => rw [List.getElem?_toArray]; rfl
      case eb8h => rw [List.getElem?_toArray]; rfl
      case eb7s =>
        go_simp
        with_reducible refine Calls.mono (Tryz.nextL hV (by omega) _ (by omega) (by omega)) ?_
        rintro e ew9 ⟨r, hr1, hr2, rfl, hV2, hT2⟩
        obtain ⟨k, rfl⟩ := Int.eq_ofNat_of_zero_le hr1
        have hk : k < 4 := by omega
        clear hr1 hr2
        go_wp2_with fail
        refine hK.out _ _ trivial (fun hHeld => ?_)
        clear hK K
        replace hA := hT2.block hA hAg
        replace hT := hT.trans hT2
        replace hV := hV2
        clear hT2 hV2
        try simp only [Act.put, List.setIfInBounds_toArray, List.set_cons_zero, List.set_cons_succ]
        refine wpAnyH_take (i := 3) (oi := ?et10o) (v := .pointer (some ⟨gA, k, none⟩)) ?et10h (by kernel_rfl) (by kernel_rfl) (by kernel_rfl) ?et10q (Or.inl ⟨?et10w, ?et10y⟩) (by assumption) ?et10r
        case et10h => rw [List.getElem?_toArray]; rfl
        case et10q => exact fun _ _ _ h => h
        case et10w => rfl
        case et10y =>
          intro w hSw
          go_simp
          intro hk4
          exfalso
          omega
        simp only [Act.put, List.setIfInBounds_toArray, List.set_cons_zero, List.set_cons_succ]
        refine wpAnyH_ready (rs := [4, 6]) (by kernel_rfl) (by simp) ?_
        refine AllReadyH.cons (o := ?eb11o) ?eb11h (fun K hK => ?eb11s) (AllReadyH.cons (o := ?eb12o) ?eb12h (fun K hK => ?eb12s) AllReadyH.nil)
        case eb11h => rw [List.getElem?_toArray]; rfl
        case eb12h => rw [List.getElem?_toArray]; rfl
        case eb11s =>
          obtain ⟨t, ht1, ht2⟩ := row4 hA hk
          go_simp
          refine hK.out _ _ trivial (fun hHeld => ?_)
          clear hK K ht2
          try simp only [Act.put, List.setIfInBounds_toArray, List.set_cons_zero, List.set_cons_succ]
          refine wpAnyH_ready (rs := [6]) (by kernel_rfl) (by simp) ?_
          refine AllReadyH.cons (o := ?eb13o) ?eb13h (fun K hK => ?eb13s) AllReadyH.nil
          case eb13h => rw [List.getElem?_toArray]; rfl
          go_simp
          refine hK.out _ _ trivial (fun hHeld => ?_)
          clear hK K
          obtain ⟨hB, hBg, hO, hT, hV⟩ := blk_new hV hT (.cells #[.int .i64 49, .int .i64 50, .int .i64 51, .int .i64 99, .int .i64 100, .int .i64 101] 3)
          replace hA := hO hA
          clear hO
          try simp only [Act.put, List.setIfInBounds_toArray, List.set_cons_zero, List.set_cons_succ]
          generalize (World.heap ew9).size = gB at hB hBg ⊢
          generalize World.alloc ew9 _ = ew14 at hV hT hB hA ⊢
          refine wpAnyH_ready (rs := [7]) (by kernel_rfl) (by simp) ?_
          refine AllReadyH.cons (o := ?eb15o) ?eb15h (fun K hK => ?eb15s) AllReadyH.nil
          case eb15h => rw [List.getElem?_toArray]; rfl
          have hPk := Tryz.pickL hV (by omega) gB 6 [49, 50, 51, 99, 100, 101] rfl hBg hB (by decide) (by decide)
          go_simp
          with_reducible refine Calls.mono hPk ?_
          rintro e ew16 ⟨q, hq0, rfl, hV2, hT2⟩
          have hq : 49 ≤ q ∧ q ≤ 101 := by simp only [List.mem_cons, List.mem_nil_iff, or_false] at hq0; omega
          clear hq0
          go_wp2_with fail
          refine hK.out _ _ trivial (fun hHeld => ?_)
          clear hK K
          replace hA := hT2.block hA hAg
          replace hB := hT2.block hB hBg
          replace hT := hT.trans hT2
          replace hV := hV2
          clear hT2 hV2
          try simp only [Act.put, List.setIfInBounds_toArray, List.set_cons_zero, List.set_cons_succ]
          refine wpAnyH_ready (rs := [8]) (by kernel_rfl) (by simp) ?_
          refine AllReadyH.cons (o := ?eb17o) ?eb17h (fun K hK => ?eb17s) AllReadyH.nil
          case eb17h => rw [List.getElem?_toArray]; rfl
          go_simp
          with_reducible refine Calls.mono (Tryz.repeatF t q (by omega) (by omega) (by omega) _) ?_
          rintro e ew18 ⟨rfl, hb1⟩
          go_wp2_with fail
          refine hK.out _ _ trivial (fun hHeld => ?_)
          clear hK K
          replace hT := hT.trans (Turns.of hb1 (Nat.le_of_lt hV.lt))
          replace hV := hV.call hb1
          try simp only [Act.put, List.setIfInBounds_toArray, List.set_cons_zero, List.set_cons_succ]
          refine wpAnyH_take (i := 9) (oi := ?et19o) (v := .string ⟨(Lib.repeatL t.data.toList q.toNat).toArray⟩) ?et19h (by kernel_rfl) (by kernel_rfl) (by kernel_rfl) ?et19q (Or.inl ⟨?et19w, ?et19y⟩) (by assumption) ?et19r
          case et19h => rw [List.getElem?_toArray]; rfl
          case et19q => exact fun _ _ _ h => h
          case et19w => rfl
          case et19y =>
            intro w hSw
            go_simp
          simp only [Act.put, List.setIfInBounds_toArray, List.set_cons_zero, List.set_cons_succ]
          refine wpAnyH_done (by kernel_rfl) ?_ _
          go_wp2_with fail
          go_ret
          exact ⟨_, _, rep_size t q ht1 hq.2, by omega, rfl, hV, hT⟩
        case eb12s =>
          go_simp
          refine hK.out _ _ trivial (fun hHeld => ?_)
          clear hK K
          obtain ⟨hB, hBg, hO, hT, hV⟩ := blk_new hV hT (.cells #[.int .i64 49, .int .i64 50, .int .i64 51, .int .i64 99, .int .i64 100, .int .i64 101] 3)
          replace hA := hO hA
          clear hO
          try simp only [Act.put, List.setIfInBounds_toArray, List.set_cons_zero, List.set_cons_succ]
          generalize (World.heap ew9).size = gB at hB hBg ⊢
          generalize World.alloc ew9 _ = ew20 at hV hT hB hA ⊢
          refine wpAnyH_ready (rs := [4, 7]) (by kernel_rfl) (by simp) ?_
          refine AllReadyH.cons (o := ?eb21o) ?eb21h (fun K hK => ?eb21s) (AllReadyH.cons (o := ?eb22o) ?eb22h (fun K hK => ?eb22s) AllReadyH.nil)
          case eb21h => rw [List.getElem?_toArray]; rfl
          case eb22h => rw [List.getElem?_toArray]; rfl
          case eb21s =>
            obtain ⟨t, ht1, ht2⟩ := row4 hA hk
            go_simp
            refine hK.out _ _ trivial (fun hHeld => ?_)
            clear hK K ht2
            try simp only [Act.put, List.setIfInBounds_toArray, List.set_cons_zero, List.set_cons_succ]
            refine wpAnyH_ready (rs := [7]) (by kernel_rfl) (by simp) ?_
            refine AllReadyH.cons (o := ?eb23o) ?eb23h (fun K hK => ?eb23s) AllReadyH.nil
            case eb23h => rw [List.getElem?_toArray]; rfl
            have hPk := Tryz.pickL hV (by omega) gB 6 [49, 50, 51, 99, 100, 101] rfl hBg hB (by decide) (by decide)
            go_simp
            with_reducible refine Calls.mono hPk ?_
            rintro e ew24 ⟨q, hq0, rfl, hV2, hT2⟩
            have hq : 49 ≤ q ∧ q ≤ 101 := by simp only [List.mem_cons, List.mem_nil_iff, or_false] at hq0; omega
            clear hq0
            go_wp2_with fail
            refine hK.out _ _ trivial (fun hHeld => ?_)
            clear hK K
            replace hA := hT2.block hA hAg
            replace hB := hT2.block hB hBg
            replace hT := hT.trans hT2
            replace hV := hV2
            clear hT2 hV2
            try simp only [Act.put, List.setIfInBounds_toArray, List.set_cons_zero, List.set_cons_succ]
            refine wpAnyH_ready (rs := [8]) (by kernel_rfl) (by simp) ?_
            refine AllReadyH.cons (o := ?eb25o) ?eb25h (fun K hK => ?eb25s) AllReadyH.nil
            case eb25h => rw [List.getElem?_toArray]; rfl
            go_simp
            with_reducible refine Calls.mono (Tryz.repeatF t q (by omega) (by omega) (by omega) _) ?_
            rintro e ew26 ⟨rfl, hb1⟩
            go_wp2_with fail
            refine hK.out _ _ trivial (fun hHeld => ?_)
            clear hK K
            replace hT := hT.trans (Turns.of hb1 (Nat.le_of_lt hV.lt))
            replace hV := hV.call hb1
            try simp only [Act.put, List.setIfInBounds_toArray, List.set_cons_zero, List.set_cons_succ]
            refine wpAnyH_take (i := 9) (oi := ?et27o) (v := .string ⟨(Lib.repeatL t.data.toList q.toNat).toArray⟩) ?et27h (by kernel_rfl) (by kernel_rfl) (by kernel_rfl) ?et27q (Or.inl ⟨?et27w, ?et27y⟩) (by assumption) ?et27r
            case et27h => rw [List.getElem?_toArray]; rfl
            case et27q => exact fun _ _ _ h => h
            case et27w => rfl
            case et27y =>
              intro w hSw
              go_simp
            simp only [Act.put, List.setIfInBounds_toArray, List.set_cons_zero, List.set_cons_succ]
            refine wpAnyH_done (by kernel_rfl) ?_ _
            go_wp2_with fail
            go_ret
            exact ⟨_, _, rep_size t q ht1 hq.2, by omega, rfl, hV, hT⟩
          case eb22s =>
            have hPk := Tryz.pickL hV (by omega) gB 6 [49, 50, 51, 99, 100, 101] rfl hBg hB (by decide) (by decide)
            go_simp
            with_reducible refine Calls.mono hPk ?_
            rintro e ew28 ⟨q, hq0, rfl, hV2, hT2⟩
            have hq : 49 ≤ q ∧ q ≤ 101 := by simp only [List.mem_cons, List.mem_nil_iff, or_false] at hq0; omega
            clear hq0
            go_wp2_with fail
            refine hK.out _ _ trivial (fun hHeld => ?_)
            clear hK K
            replace hA := hT2.block hA hAg
            replace hB := hT2.block hB hBg
            replace hT := hT.trans hT2
            replace hV := hV2
            clear hT2 hV2
            try simp only [Act.put, List.setIfInBounds_toArray, List.set_cons_zero, List.set_cons_succ]
            refine wpAnyH_ready (rs := [4]) (by kernel_rfl) (by simp) ?_
            refine AllReadyH.cons (o := ?eb29o) ?eb29h (fun K hK => ?eb29s) AllReadyH.nil
            case eb29h => rw [List.getElem?_toArray]; rfl
            obtain ⟨t, ht1, ht2⟩ := row4 hA hk
            go_simp
            refine hK.out _ _ trivial (fun hHeld => ?_)
            clear hK K ht2
            try simp only [Act.put, List.setIfInBounds_toArray, List.set_cons_zero, List.set_cons_succ]
            refine wpAnyH_ready (rs := [8]) (by kernel_rfl) (by simp) ?_
            refine AllReadyH.cons (o := ?eb30o) ?eb30h (fun K hK => ?eb30s) AllReadyH.nil
            case eb30h => rw [List.getElem?_toArray]; rfl
            go_simp
            with_reducible refine Calls.mono (Tryz.repeatF t q (by omega) (by omega) (by omega) _) ?_
            rintro e ew31 ⟨rfl, hb1⟩
            go_wp2_with fail
            refine hK.out _ _ trivial (fun hHeld => ?_)
            clear hK K
            replace hT := hT.trans (Turns.of hb1 (Nat.le_of_lt hV.lt))
            replace hV := hV.call hb1
            try simp only [Act.put, List.setIfInBounds_toArray, List.set_cons_zero, List.set_cons_succ]
            refine wpAnyH_take (i := 9) (oi := ?et32o) (v := .string ⟨(Lib.repeatL t.data.toList q.toNat).toArray⟩) ?et32h (by kernel_rfl) (by kernel_rfl) (by kernel_rfl) ?et32q (Or.inl ⟨?et32w, ?et32y⟩) (by assumption) ?et32r
            case et32h => rw [List.getElem?_toArray]; rfl
            case et32q => exact fun _ _ _ h => h
            case et32w => rfl
            case et32y =>
              intro w hSw
              go_simp
            simp only [Act.put, List.setIfInBounds_toArray, List.set_cons_zero, List.set_cons_succ]
            refine wpAnyH_done (by kernel_rfl) ?_ _
            go_wp2_with fail
            go_ret
            exact ⟨_, _, rep_size t q ht1 hq.2, by omega, rfl, hV, hT⟩
      case eb8s =>
        go_simp
        refine hK.out _ _ trivial (fun hHeld => ?_)
        clear hK K
        obtain ⟨hB, hBg, hO, hT, hV⟩ := blk_new hV hT (.cells #[.int .i64 49, .int .i64 50, .int .i64 51, .int .i64 99, .int .i64 100, .int .i64 101] 3)
        replace hA := hO hA
        clear hO
        try simp only [Act.put, List.setIfInBounds_toArray, List.set_cons_zero, List.set_cons_succ]
        generalize (World.heap ew6).size = gB at hB hBg ⊢
        generalize World.alloc ew6 _ = ew33 at hV hT hB hA ⊢
        refine wpAnyH_ready (rs := [2]) (by kernel_rfl) (by simp) ?_
        refine AllReadyH.cons (o := ?eb34o) ?eb34h (fun K hK => ?eb34s) AllReadyH.nil
        case eb34h => rw [List.getElem?_toArray]; rfl
        go_simp
        with_reducible refine Calls.mono (Tryz.nextL hV (by omega) _ (by omega) (by omega)) ?_
        rintro e ew35 ⟨r, hr1, hr2, rfl, hV2, hT2⟩
        obtain ⟨k, rfl⟩ := Int.eq_ofNat_of_zero_le hr1
        have hk : k < 4 := by omega
        clear hr1 hr2
        go_wp2_with fail
        refine hK.out _ _ trivial (fun hHeld => ?_)
        clear hK K
        replace hA := hT2.block hA hAg
        replace hB := hT2.block hB hBg
        replace hT := hT.trans hT2
        replace hV := hV2
        clear hT2 hV2
        try simp only [Act.put, List.setIfInBounds_toArray, List.set_cons_zero, List.set_cons_succ]
        refine wpAnyH_take (i := 3) (oi := ?et36o) (v := .pointer (some ⟨gA, k, none⟩)) ?et36h (by kernel_rfl) (by kernel_rfl) (by kernel_rfl) ?et36q (Or.inl ⟨?et36w, ?et36y⟩) (by assumption) ?et36r
        case et36h => rw [List.getElem?_toArray]; rfl
        case et36q => exact fun _ _ _ h => h
        case et36w => rfl
        case et36y =>
          intro w hSw
          go_simp
          intro hk4
          exfalso
          omega
        simp only [Act.put, List.setIfInBounds_toArray, List.set_cons_zero, List.set_cons_succ]
        refine wpAnyH_ready (rs := [4, 7]) (by kernel_rfl) (by simp) ?_
        refine AllReadyH.cons (o := ?eb37o) ?eb37h (fun K hK => ?eb37s) (AllReadyH.cons (o := ?eb38o) ?eb38h (fun K hK => ?eb38s) AllReadyH.nil)
        case eb37h => rw [List.getElem?_toArray]; rfl
        case eb38h => rw [List.getElem?_toArray]; rfl
        case eb37s =>
          obtain ⟨t, ht1, ht2⟩ := row4 hA hk
          go_simp
          refine hK.out _ _ trivial (fun hHeld => ?_)
          clear hK K ht2
          try simp only [Act.put, List.setIfInBounds_toArray, List.set_cons_zero, List.set_cons_succ]
          refine wpAnyH_ready (rs := [7]) (by kernel_rfl) (by simp) ?_
          refine AllReadyH.cons (o := ?eb39o) ?eb39h (fun K hK => ?eb39s) AllReadyH.nil
          case eb39h => rw [List.getElem?_toArray]; rfl
          have hPk := Tryz.pickL hV (by omega) gB 6 [49, 50, 51, 99, 100, 101] rfl hBg hB (by decide) (by decide)
          go_simp
          with_reducible refine Calls.mono hPk ?_
          rintro e ew40 ⟨q, hq0, rfl, hV2, hT2⟩
          have hq : 49 ≤ q ∧ q ≤ 101 := by simp only [List.mem_cons, List.mem_nil_iff, or_false] at hq0; omega
          clear hq0
          go_wp2_with fail
          refine hK.out _ _ trivial (fun hHeld => ?_)
          clear hK K
          replace hA := hT2.block hA hAg
          replace hB := hT2.block hB hBg
          replace hT := hT.trans hT2
          replace hV := hV2
          clear hT2 hV2
          try simp only [Act.put, List.setIfInBounds_toArray, List.set_cons_zero, List.set_cons_succ]
          refine wpAnyH_ready (rs := [8]) (by kernel_rfl) (by simp) ?_
          refine AllReadyH.cons (o := ?eb41o) ?eb41h (fun K hK => ?eb41s) AllReadyH.nil
          case eb41h => rw [List.getElem?_toArray]; rfl
          go_simp
          with_reducible refine Calls.mono (Tryz.repeatF t q (by omega) (by omega) (by omega) _) ?_
          rintro e ew42 ⟨rfl, hb1⟩
          go_wp2_with fail
          refine hK.out _ _ trivial (fun hHeld => ?_)
          clear hK K
          replace hT := hT.trans (Turns.of hb1 (Nat.le_of_lt hV.lt))
          replace hV := hV.call hb1
          try simp only [Act.put, List.setIfInBounds_toArray, List.set_cons_zero, List.set_cons_succ]
          refine wpAnyH_take (i := 9) (oi := ?et43o) (v := .string ⟨(Lib.repeatL t.data.toList q.toNat).toArray⟩) ?et43h (by kernel_rfl) (by kernel_rfl) (by kernel_rfl) ?et43q (Or.inl ⟨?et43w, ?et43y⟩) (by assumption) ?et43r
          case et43h => rw [List.getElem?_toArray]; rfl
          case et43q => exact fun _ _ _ h => h
          case et43w => rfl
          case et43y =>
            intro w hSw
            go_simp
          simp only [Act.put, List.setIfInBounds_toArray, List.set_cons_zero, List.set_cons_succ]
          refine wpAnyH_done (by kernel_rfl) ?_ _
          go_wp2_with fail
          go_ret
          exact ⟨_, _, rep_size t q ht1 hq.2, by omega, rfl, hV, hT⟩
        case eb38s =>
          have hPk := Tryz.pickL hV (by omega) gB 6 [49, 50, 51, 99, 100, 101] rfl hBg hB (by decide) (by decide)
          go_simp
          with_reducible refine Calls.mono hPk ?_
          rintro e ew44 ⟨q, hq0, rfl, hV2, hT2⟩
          have hq : 49 ≤ q ∧ q ≤ 101 := by simp only [List.mem_cons, List.mem_nil_iff, or_false] at hq0; omega
          clear hq0
          go_wp2_with fail
          refine hK.out _ _ trivial (fun hHeld => ?_)
          clear hK K
          replace hA := hT2.block hA hAg
          replace hB := hT2.block hB hBg
          replace hT := hT.trans hT2
          replace hV := hV2
          clear hT2 hV2
          try simp only [Act.put, List.setIfInBounds_toArray, List.set_cons_zero, List.set_cons_succ]
          refine wpAnyH_ready (rs := [4]) (by kernel_rfl) (by simp) ?_
          refine AllReadyH.cons (o := ?eb45o) ?eb45h (fun K hK => ?eb45s) AllReadyH.nil
          case eb45h => rw [List.getElem?_toArray]; rfl
          obtain ⟨t, ht1, ht2⟩ := row4 hA hk
          go_simp
          refine hK.out _ _ trivial (fun hHeld => ?_)
          clear hK K ht2
          try simp only [Act.put, List.setIfInBounds_toArray, List.set_cons_zero, List.set_cons_succ]
          refine wpAnyH_ready (rs := [8]) (by kernel_rfl) (by simp) ?_
          refine AllReadyH.cons (o := ?eb46o) ?eb46h (fun K hK => ?eb46s) AllReadyH.nil
          case eb46h => rw [List.getElem?_toArray]; rfl
          go_simp
          with_reducible refine Calls.mono (Tryz.repeatF t q (by omega) (by omega) (by omega) _) ?_
          rintro e ew47 ⟨rfl, hb1⟩
          go_wp2_with fail
          refine hK.out _ _ trivial (fun hHeld => ?_)
          clear hK K
          replace hT := hT.trans (Turns.of hb1 (Nat.le_of_lt hV.lt))
          replace hV := hV.call hb1
          try simp only [Act.put, List.setIfInBounds_toArray, List.set_cons_zero, List.set_cons_succ]
          refine wpAnyH_take (i := 9) (oi := ?et48o) (v := .string ⟨(Lib.repeatL t.data.toList q.toNat).toArray⟩) ?et48h (by kernel_rfl) (by kernel_rfl) (by kernel_rfl) ?et48q (Or.inl ⟨?et48w, ?et48y⟩) (by assumption) ?et48r
          case et48h => rw [List.getElem?_toArray]; rfl
          case et48q => exact fun _ _ _ h => h
          case et48w => rfl
          case et48y =>
            intro w hSw
            go_simp
          simp only [Act.put, List.setIfInBounds_toArray, List.set_cons_zero, List.set_cons_succ]
          refine wpAnyH_done (by kernel_rfl) ?_ _
          go_wp2_with fail
          go_ret
          exact ⟨_, _, rep_size t q ht1 hq.2, by omega, rfl, hV, hT⟩
    case eb4s =>
      go_simp
      with_reducible refine Calls.mono (Tryz.nextL hV (by omega) _ (by omega) (by omega)) ?_
      rintro e ew49 ⟨r, hr1, hr2, rfl, hV2, hT2⟩
      obtain ⟨k, rfl⟩ := Int.eq_ofNat_of_zero_le hr1
      have hk : k < 4 := by omega
      clear hr1 hr2
      go_wp2_with fail
      refine hK.out _ _ trivial (fun hHeld => ?_)
      clear hK K
      replace hT := hT.trans hT2
      replace hV := hV2
      clear hT2 hV2
      try simp only [Act.put, List.setIfInBounds_toArray, List.set_cons_zero, List.set_cons_succ]
      refine wpAnyH_ready (rs := [0, 6]) (by kernel_rfl) (by simp) ?_
      refine AllReadyH.cons (o := ?eb50o) ?eb50h (fun K hK => ?eb50s) (AllReadyH.cons (o := ?eb51o) ?eb51h (fun K hK => ?eb51s) AllReadyH.nil)
      case eb50h => rw [List.getElem?_toArray]; rfl
      case eb51h => rw [List.getElem?_toArray]; rfl
      case eb50s =>
        go_simp
        refine hK.out _ _ trivial (fun hHeld => ?_)
        clear hK K
        obtain ⟨hA, hAg, hO, hT, hV⟩ := blk_new hV hT (.cells #[.string ⟨#[97]⟩, .string ⟨#[39]⟩, .string ⟨#[92]⟩, .string ⟨#[37]⟩] 9)
        clear hO
        try simp only [Act.put, List.setIfInBounds_toArray, List.set_cons_zero, List.set_cons_succ]
        generalize (World.heap ew49).size = gA at hA hAg ⊢
        generalize World.alloc ew49 _ = ew52 at hV hT hA  ⊢
        refine wpAnyH_take (i := 3) (oi := ?et53o) (v := .pointer (some ⟨gA, k, none⟩)) ?et53h (by kernel_rfl) (by kernel_rfl) (by kernel_rfl) ?et53q (Or.inl ⟨?et53w, ?et53y⟩) (by assumption) ?et53r
        case et53h => rw [List.getElem?_toArray]; rfl
        case et53q => exact fun _ _ _ h => h
        case et53w => rfl
        case et53y =>
          intro w hSw
          go_simp
          intro hk4
          exfalso
          omega
        simp only [Act.put, List.setIfInBounds_toArray, List.set_cons_zero, List.set_cons_succ]
        refine wpAnyH_ready (rs := [4, 6]) (by kernel_rfl) (by simp) ?_
        refine AllReadyH.cons (o := ?eb54o) ?eb54h (fun K hK => ?eb54s) (AllReadyH.cons (o := ?eb55o) ?eb55h (fun K hK => ?eb55s) AllReadyH.nil)
        case eb54h => rw [List.getElem?_toArray]; rfl
        case eb55h => rw [List.getElem?_toArray]; rfl
        case eb54s =>
          obtain ⟨t, ht1, ht2⟩ := row4 hA hk
          go_simp
          refine hK.out _ _ trivial (fun hHeld => ?_)
          clear hK K ht2
          try simp only [Act.put, List.setIfInBounds_toArray, List.set_cons_zero, List.set_cons_succ]
          refine wpAnyH_ready (rs := [6]) (by kernel_rfl) (by simp) ?_
          refine AllReadyH.cons (o := ?eb56o) ?eb56h (fun K hK => ?eb56s) AllReadyH.nil
          case eb56h => rw [List.getElem?_toArray]; rfl
          go_simp
          refine hK.out _ _ trivial (fun hHeld => ?_)
          clear hK K
          obtain ⟨hB, hBg, hO, hT, hV⟩ := blk_new hV hT (.cells #[.int .i64 49, .int .i64 50, .int .i64 51, .int .i64 99, .int .i64 100, .int .i64 101] 3)
          replace hA := hO hA
          clear hO
          try simp only [Act.put, List.setIfInBounds_toArray, List.set_cons_zero, List.set_cons_succ]
          generalize (World.heap ew52).size = gB at hB hBg ⊢
          generalize World.alloc ew52 _ = ew57 at hV hT hB hA ⊢
          refine wpAnyH_ready (rs := [7]) (by kernel_rfl) (by simp) ?_
          refine AllReadyH.cons (o := ?eb58o) ?eb58h (fun K hK => ?eb58s) AllReadyH.nil
          case eb58h => rw [List.getElem?_toArray]; rfl
          have hPk := Tryz.pickL hV (by omega) gB 6 [49, 50, 51, 99, 100, 101] rfl hBg hB (by decide) (by decide)
          go_simp
          with_reducible refine Calls.mono hPk ?_
          rintro e ew59 ⟨q, hq0, rfl, hV2, hT2⟩
          have hq : 49 ≤ q ∧ q ≤ 101 := by simp only [List.mem_cons, List.mem_nil_iff, or_false] at hq0; omega
          clear hq0
          go_wp2_with fail
          refine hK.out _ _ trivial (fun hHeld => ?_)
          clear hK K
          replace hA := hT2.block hA hAg
          replace hB := hT2.block hB hBg
          replace hT := hT.trans hT2
          replace hV := hV2
          clear hT2 hV2
          try simp only [Act.put, List.setIfInBounds_toArray, List.set_cons_zero, List.set_cons_succ]
          refine wpAnyH_ready (rs := [8]) (by kernel_rfl) (by simp) ?_
          refine AllReadyH.cons (o := ?eb60o) ?eb60h (fun K hK => ?eb60s) AllReadyH.nil
          case eb60h => rw [List.getElem?_toArray]; rfl
          go_simp
          with_reducible refine Calls.mono (Tryz.repeatF t q (by omega) (by omega) (by omega) _) ?_
          rintro e ew61 ⟨rfl, hb1⟩
          go_wp2_with fail
          refine hK.out _ _ trivial (fun hHeld => ?_)
          clear hK K
          replace hT := hT.trans (Turns.of hb1 (Nat.le_of_lt hV.lt))
          replace hV := hV.call hb1
          try simp only [Act.put, List.setIfInBounds_toArray, List.set_cons_zero, List.set_cons_succ]
          refine wpAnyH_take (i := 9) (oi := ?et62o) (v := .string ⟨(Lib.repeatL t.data.toList q.toNat).toArray⟩) ?et62h (by kernel_rfl) (by kernel_rfl) (by kernel_rfl) ?et62q (Or.inl ⟨?et62w, ?et62y⟩) (by assumption) ?et62r
          case et62h => rw [List.getElem?_toArray]; rfl
          case et62q => exact fun _ _ _ h => h
          case et62w => rfl
          case et62y =>
            intro w hSw
            go_simp
          simp only [Act.put, List.setIfInBounds_toArray, List.set_cons_zero, List.set_cons_succ]
          refine wpAnyH_done (by kernel_rfl) ?_ _
          go_wp2_with fail
          go_ret
          exact ⟨_, _, rep_size t q ht1 hq.2, by omega, rfl, hV, hT⟩
        case eb55s =>
          go_simp
          refine hK.out _ _ trivial (fun hHeld => ?_)
          clear hK K
          obtain ⟨hB, hBg, hO, hT, hV⟩ := blk_new hV hT (.cells #[.int .i64 49, .int .i64 50, .int .i64 51, .int .i64 99, .int .i64 100, .int .i64 101] 3)
          replace hA := hO hA
          clear hO
          try simp only [Act.put, List.setIfInBounds_toArray, List.set_cons_zero, List.set_cons_succ]
          generalize (World.heap ew52).size = gB at hB hBg ⊢
          generalize World.alloc ew52 _ = ew63 at hV hT hB hA ⊢
          refine wpAnyH_ready (rs := [4, 7]) (by kernel_rfl) (by simp) ?_
          refine AllReadyH.cons (o := ?eb64o) ?eb64h (fun K hK => ?eb64s) (AllReadyH.cons (o := ?eb65o) ?eb65h (fun K hK => ?eb65s) AllReadyH.nil)
          case eb64h => rw [List.getElem?_toArray]; rfl
          case eb65h => rw [List.getElem?_toArray]; rfl
          case eb64s =>
            obtain ⟨t, ht1, ht2⟩ := row4 hA hk
            go_simp
            refine hK.out _ _ trivial (fun hHeld => ?_)
            clear hK K ht2
            try simp only [Act.put, List.setIfInBounds_toArray, List.set_cons_zero, List.set_cons_succ]
            refine wpAnyH_ready (rs := [7]) (by kernel_rfl) (by simp) ?_
            refine AllReadyH.cons (o := ?eb66o) ?eb66h (fun K hK => ?eb66s) AllReadyH.nil
            case eb66h => rw [List.getElem?_toArray]; rfl
            have hPk := Tryz.pickL hV (by omega) gB 6 [49, 50, 51, 99, 100, 101] rfl hBg hB (by decide) (by decide)
            go_simp
            with_reducible refine Calls.mono hPk ?_
            rintro e ew67 ⟨q, hq0, rfl, hV2, hT2⟩
            have hq : 49 ≤ q ∧ q ≤ 101 := by simp only [List.mem_cons, List.mem_nil_iff, or_false] at hq0; omega
            clear hq0
            go_wp2_with fail
            refine hK.out _ _ trivial (fun hHeld => ?_)
            clear hK K
            replace hA := hT2.block hA hAg
            replace hB := hT2.block hB hBg
            replace hT := hT.trans hT2
            replace hV := hV2
            clear hT2 hV2
            try simp only [Act.put, List.setIfInBounds_toArray, List.set_cons_zero, List.set_cons_succ]
            refine wpAnyH_ready (rs := [8]) (by kernel_rfl) (by simp) ?_
            refine AllReadyH.cons (o := ?eb68o) ?eb68h (fun K hK => ?eb68s) AllReadyH.nil
            case eb68h => rw [List.getElem?_toArray]; rfl
            go_simp
            with_reducible refine Calls.mono (Tryz.repeatF t q (by omega) (by omega) (by omega) _) ?_
            rintro e ew69 ⟨rfl, hb1⟩
            go_wp2_with fail
            refine hK.out _ _ trivial (fun hHeld => ?_)
            clear hK K
            replace hT := hT.trans (Turns.of hb1 (Nat.le_of_lt hV.lt))
            replace hV := hV.call hb1
            try simp only [Act.put, List.setIfInBounds_toArray, List.set_cons_zero, List.set_cons_succ]
            refine wpAnyH_take (i := 9) (oi := ?et70o) (v := .string ⟨(Lib.repeatL t.data.toList q.toNat).toArray⟩) ?et70h (by kernel_rfl) (by kernel_rfl) (by kernel_rfl) ?et70q (Or.inl ⟨?et70w, ?et70y⟩) (by assumption) ?et70r
            case et70h => rw [List.getElem?_toArray]; rfl
            case et70q => exact fun _ _ _ h => h
            case et70w => rfl
            case et70y =>
              intro w hSw
              go_simp
            simp only [Act.put, List.setIfInBounds_toArray, List.set_cons_zero, List.set_cons_succ]
            refine wpAnyH_done (by kernel_rfl) ?_ _
            go_wp2_with fail
            go_ret
            exact ⟨_, _, rep_size t q ht1 hq.2, by omega, rfl, hV, hT⟩
          case eb65s =>
            have hPk := Tryz.pickL hV (by omega) gB 6 [49, 50, 51, 99, 100, 101] rfl hBg hB (by decide) (by decide)
            go_simp
            with_reducible refine Calls.mono hPk ?_
            rintro e ew71 ⟨q, hq0, rfl, hV2, hT2⟩
            have hq : 49 ≤ q ∧ q ≤ 101 := by simp only [List.mem_cons, List.mem_nil_iff, or_false] at hq0; omega
            clear hq0
            go_wp2_with fail
            refine hK.out _ _ trivial (fun hHeld => ?_)
            clear hK K
            replace hA := hT2.block hA hAg
            replace hB := hT2.block hB hBg
            replace hT := hT.trans hT2
            replace hV := hV2
            clear hT2 hV2
            try simp only [Act.put, List.setIfInBounds_toArray, List.set_cons_zero, List.set_cons_succ]
            refine wpAnyH_ready (rs := [4]) (by kernel_rfl) (by simp) ?_
            refine AllReadyH.cons (o := ?eb72o) ?eb72h (fun K hK => ?eb72s) AllReadyH.nil
            case eb72h => rw [List.getElem?_toArray]; rfl
            obtain ⟨t, ht1, ht2⟩ := row4 hA hk
            go_simp
            refine hK.out _ _ trivial (fun hHeld => ?_)
            clear hK K ht2
            try simp only [Act.put, List.setIfInBounds_toArray, List.set_cons_zero, List.set_cons_succ]
            refine wpAnyH_ready (rs := [8]) (by kernel_rfl) (by simp) ?_
            refine AllReadyH.cons (o := ?eb73o) ?eb73h (fun K hK => ?eb73s) AllReadyH.nil
            case eb73h => rw [List.getElem?_toArray]; rfl
            go_simp
            with_reducible refine Calls.mono (Tryz.repeatF t q (by omega) (by omega) (by omega) _) ?_
            rintro e ew74 ⟨rfl, hb1⟩
            go_wp2_with fail
            refine hK.out _ _ trivial (fun hHeld => ?_)
            clear hK K
            replace hT := hT.trans (Turns.of hb1 (Nat.le_of_lt hV.lt))
            replace hV := hV.call hb1
            try simp only [Act.put, List.setIfInBounds_toArray, List.set_cons_zero, List.set_cons_succ]
            refine wpAnyH_take (i := 9) (oi := ?et75o) (v := .string ⟨(Lib.repeatL t.data.toList q.toNat).toArray⟩) ?et75h (by kernel_rfl) (by kernel_rfl) (by kernel_rfl) ?et75q (Or.inl ⟨?et75w, ?et75y⟩) (by assumption) ?et75r
            case et75h => rw [List.getElem?_toArray]; rfl
            case et75q => exact fun _ _ _ h => h
            case et75w => rfl
            case et75y =>
              intro w hSw
              go_simp
            simp only [Act.put, List.setIfInBounds_toArray, List.set_cons_zero, List.set_cons_succ]
            refine wpAnyH_done (by kernel_rfl) ?_ _
            go_wp2_with fail
            go_ret
            exact ⟨_, _, rep_size t q ht1 hq.2, by omega, rfl, hV, hT⟩
      case eb51s =>
        go_simp
        refine hK.out _ _ trivial (fun hHeld => ?_)
        clear hK K
        obtain ⟨hB, hBg, hO, hT, hV⟩ := blk_new hV hT (.cells #[.int .i64 49, .int .i64 50, .int .i64 51, .int .i64 99, .int .i64 100, .int .i64 101] 3)
        clear hO
        try simp only [Act.put, List.setIfInBounds_toArray, List.set_cons_zero, List.set_cons_succ]
        generalize (World.heap ew49).size = gB at hB hBg ⊢
        generalize World.alloc ew49 _ = ew76 at hV hT hB  ⊢
        refine wpAnyH_ready (rs := [0, 7]) (by kernel_rfl) (by simp) ?_
        refine AllReadyH.cons (o := ?eb77o) ?eb77h (fun K hK => ?eb77s) (AllReadyH.cons (o := ?eb78o) ?eb78h (fun K hK => ?eb78s) AllReadyH.nil)
        case eb77h => rw [List.getElem?_toArray]; rfl
        case eb78h => rw [List.getElem?_toArray]; rfl
        case eb77s =>
          go_simp
          refine hK.out _ _ trivial (fun hHeld => ?_)
          clear hK K
          obtain ⟨hA, hAg, hO, hT, hV⟩ := blk_new hV hT (.cells #[.string ⟨#[97]⟩, .string ⟨#[39]⟩, .string ⟨#[92]⟩, .string ⟨#[37]⟩] 9)
          replace hB := hO hB
          clear hO
          try simp only [Act.put, List.setIfInBounds_toArray, List.set_cons_zero, List.set_cons_succ]
          generalize (World.heap ew76).size = gA at hA hAg ⊢
          generalize World.alloc ew76 _ = ew79 at hV hT hA hB ⊢
          refine wpAnyH_take (i := 3) (oi := ?et80o) (v := .pointer (some ⟨gA, k, none⟩)) ?et80h (by kernel_rfl) (by kernel_rfl) (by kernel_rfl) ?et80q (Or.inl ⟨?et80w, ?et80y⟩) (by assumption) ?et80r
          case et80h => rw [List.getElem?_toArray]; rfl
          case et80q => exact fun _ _ _ h => h
          case et80w => rfl
          case et80y =>
            intro w hSw
            go_simp
            intro hk4
            exfalso
            omega
          simp only [Act.put, List.setIfInBounds_toArray, List.set_cons_zero, List.set_cons_succ]
          refine wpAnyH_ready (rs := [4, 7]) (by kernel_rfl) (by simp) ?_
          refine AllReadyH.cons (o := ?eb81o) ?eb81h (fun K hK => ?eb81s) (AllReadyH.cons (o := ?eb82o) ?eb82h (fun K hK => ?eb82s) AllReadyH.nil)
          case eb81h => rw [List.getElem?_toArray]; rfl
          case eb82h => rw [List.getElem?_toArray]; rfl
          case eb81s =>
            obtain ⟨t, ht1, ht2⟩ := row4 hA hk
            go_simp
            refine hK.out _ _ trivial (fun hHeld => ?_)
            clear hK K ht2
            try simp only [Act.put, List.setIfInBounds_toArray, List.set_cons_zero, List.set_cons_succ]
            refine wpAnyH_ready (rs := [7]) (by kernel_rfl) (by simp) ?_
            refine AllReadyH.cons (o := ?eb83o) ?eb83h (fun K hK => ?eb83s) AllReadyH.nil
            case eb83h => rw [List.getElem?_toArray]; rfl
            have hPk := Tryz.pickL hV (by omega) gB 6 [49, 50, 51, 99, 100, 101] rfl hBg hB (by decide) (by decide)
            go_simp
            with_reducible refine Calls.mono hPk ?_
            rintro e ew84 ⟨q, hq0, rfl, hV2, hT2⟩
            have hq : 49 ≤ q ∧ q ≤ 101 := by simp only [List.mem_cons, List.mem_nil_iff, or_false] at hq0; omega
            clear hq0
            go_wp2_with fail
            refine hK.out _ _ trivial (fun hHeld => ?_)
            clear hK K
            replace hA := hT2.block hA hAg
            replace hB := hT2.block hB hBg
            replace hT := hT.trans hT2
            replace hV := hV2
            clear hT2 hV2
            try simp only [Act.put, List.setIfInBounds_toArray, List.set_cons_zero, List.set_cons_succ]
            refine wpAnyH_ready (rs := [8]) (by kernel_rfl) (by simp) ?_
            refine AllReadyH.cons (o := ?eb85o) ?eb85h (fun K hK => ?eb85s) AllReadyH.nil
            case eb85h => rw [List.getElem?_toArray]; rfl
            go_simp
            with_reducible refine Calls.mono (Tryz.repeatF t q (by omega) (by omega) (by omega) _) ?_
            rintro e ew86 ⟨rfl, hb1⟩
            go_wp2_with fail
            refine hK.out _ _ trivial (fun hHeld => ?_)
            clear hK K
            replace hT := hT.trans (Turns.of hb1 (Nat.le_of_lt hV.lt))
            replace hV := hV.call hb1
            try simp only [Act.put, List.setIfInBounds_toArray, List.set_cons_zero, List.set_cons_succ]
            refine wpAnyH_take (i := 9) (oi := ?et87o) (v := .string ⟨(Lib.repeatL t.data.toList q.toNat).toArray⟩) ?et87h (by kernel_rfl) (by kernel_rfl) (by kernel_rfl) ?et87q (Or.inl ⟨?et87w, ?et87y⟩) (by assumption) ?et87r
            case et87h => rw [List.getElem?_toArray]; rfl
            case et87q => exact fun _ _ _ h => h
            case et87w => rfl
            case et87y =>
              intro w hSw
              go_simp
            simp only [Act.put, List.setIfInBounds_toArray, List.set_cons_zero, List.set_cons_succ]
            refine wpAnyH_done (by kernel_rfl) ?_ _
            go_wp2_with fail
            go_ret
            exact ⟨_, _, rep_size t q ht1 hq.2, by omega, rfl, hV, hT⟩
          case eb82s =>
            have hPk := Tryz.pickL hV (by omega) gB 6 [49, 50, 51, 99, 100, 101] rfl hBg hB (by decide) (by decide)
            go_simp
            with_reducible refine Calls.mono hPk ?_
            rintro e ew88 ⟨q, hq0, rfl, hV2, hT2⟩
            have hq : 49 ≤ q ∧ q ≤ 101 := by simp only [List.mem_cons, List.mem_nil_iff, or_false] at hq0; omega
            clear hq0
            go_wp2_with fail
            refine hK.out _ _ trivial (fun hHeld => ?_)
            clear hK K
            replace hA := hT2.block hA hAg
            replace hB := hT2.block hB hBg
            replace hT := hT.trans hT2
            replace hV := hV2
            clear hT2 hV2
            try simp only [Act.put, List.setIfInBounds_toArray, List.set_cons_zero, List.set_cons_succ]
            refine wpAnyH_ready (rs := [4]) (by kernel_rfl) (by simp) ?_
            refine AllReadyH.cons (o := ?eb89o) ?eb89h (fun K hK => ?eb89s) AllReadyH.nil
            case eb89h => rw [List.getElem?_toArray]; rfl
            obtain ⟨t, ht1, ht2⟩ := row4 hA hk
            go_simp
            refine hK.out _ _ trivial (fun hHeld => ?_)
            clear hK K ht2
            try simp only [Act.put, List.setIfInBounds_toArray, List.set_cons_zero, List.set_cons_succ]
            refine wpAnyH_ready (rs := [8]) (by kernel_rfl) (by simp) ?_
            refine AllReadyH.cons (o := ?eb90o) ?eb90h (fun K hK => ?eb90s) AllReadyH.nil
            case eb90h => rw [List.getElem?_toArray]; rfl
            go_simp
            with_reducible refine Calls.mono (Tryz.repeatF t q (by omega) (by omega) (by omega) _) ?_
            rintro e ew91 ⟨rfl, hb1⟩
            go_wp2_with fail
            refine hK.out _ _ trivial (fun hHeld => ?_)
            clear hK K
            replace hT := hT.trans (Turns.of hb1 (Nat.le_of_lt hV.lt))
            replace hV := hV.call hb1
            try simp only [Act.put, List.setIfInBounds_toArray, List.set_cons_zero, List.set_cons_succ]
            refine wpAnyH_take (i := 9) (oi := ?et92o) (v := .string ⟨(Lib.repeatL t.data.toList q.toNat).toArray⟩) ?et92h (by kernel_rfl) (by kernel_rfl) (by kernel_rfl) ?et92q (Or.inl ⟨?et92w, ?et92y⟩) (by assumption) ?et92r
            case et92h => rw [List.getElem?_toArray]; rfl
            case et92q => exact fun _ _ _ h => h
            case et92w => rfl
            case et92y =>
              intro w hSw
              go_simp
            simp only [Act.put, List.setIfInBounds_toArray, List.set_cons_zero, List.set_cons_succ]
            refine wpAnyH_done (by kernel_rfl) ?_ _
            go_wp2_with fail
            go_ret
            exact ⟨_, _, rep_size t q ht1 hq.2, by omega, rfl, hV, hT⟩
        case eb78s =>
          have hPk := Tryz.pickL hV (by omega) gB 6 [49, 50, 51, 99, 100, 101] rfl hBg hB (by decide) (by decide)
          go_simp
          with_reducible refine Calls.mono hPk ?_
          rintro e ew93 ⟨q, hq0, rfl, hV2, hT2⟩
          have hq : 49 ≤ q ∧ q ≤ 101 := by simp only [List.mem_cons, List.mem_nil_iff, or_false] at hq0; omega
          clear hq0
          go_wp2_with fail
          refine hK.out _ _ trivial (fun hHeld => ?_)
          clear hK K
          replace hB := hT2.block hB hBg
          replace hT := hT.trans hT2
          replace hV := hV2
          clear hT2 hV2
          try simp only [Act.put, List.setIfInBounds_toArray, List.set_cons_zero, List.set_cons_succ]
          refine wpAnyH_ready (rs := [0]) (by kernel_rfl) (by simp) ?_
          refine AllReadyH.cons (o := ?eb94o) ?eb94h (fun K hK => ?eb94s) AllReadyH.nil
          case eb94h => rw [List.getElem?_toArray]; rfl
          go_simp
          refine hK.out _ _ trivial (fun hHeld => ?_)
          clear hK K
          obtain ⟨hA, hAg, hO, hT, hV⟩ := blk_new hV hT (.cells #[.string ⟨#[97]⟩, .string ⟨#[39]⟩, .string ⟨#[92]⟩, .string ⟨#[37]⟩] 9)
          replace hB := hO hB
          clear hO
          try simp only [Act.put, List.setIfInBounds_toArray, List.set_cons_zero, List.set_cons_succ]
          generalize (World.heap ew93).size = gA at hA hAg ⊢
          generalize World.alloc ew93 _ = ew95 at hV hT hA hB ⊢
          refine wpAnyH_take (i := 3) (oi := ?et96o) (v := .pointer (some ⟨gA, k, none⟩)) ?et96h (by kernel_rfl) (by kernel_rfl) (by kernel_rfl) ?et96q (Or.inl ⟨?et96w, ?et96y⟩) (by assumption) ?et96r
          case et96h => rw [List.getElem?_toArray]; rfl
          case et96q => exact fun _ _ _ h => h
          case et96w => rfl
          case et96y =>
            intro w hSw
            go_simp
            intro hk4
            exfalso
            omega
          simp only [Act.put, List.setIfInBounds_toArray, List.set_cons_zero, List.set_cons_succ]
          refine wpAnyH_ready (rs := [4]) (by kernel_rfl) (by simp) ?_
          refine AllReadyH.cons (o := ?eb97o) ?eb97h (fun K hK => ?eb97s) AllReadyH.nil
          case eb97h => rw [List.getElem?_toArray]; rfl
          obtain ⟨t, ht1, ht2⟩ := row4 hA hk
          go_simp
          refine hK.out _ _ trivial (fun hHeld => ?_)
          clear hK K ht2
          try simp only [Act.put, List.setIfInBounds_toArray, List.set_cons_zero, List.set_cons_succ]
          refine wpAnyH_ready (rs := [8]) (by kernel_rfl) (by simp) ?_
          refine AllReadyH.cons (o := ?eb98o) ?eb98h (fun K hK => ?eb98s) AllReadyH.nil
          case eb98h => rw [List.getElem?_toArray]; rfl
          go_simp
          with_reducible refine Calls.mono (Tryz.repeatF t q (by omega) (by omega) (by omega) _) ?_
          rintro e ew99 ⟨rfl, hb1⟩
          go_wp2_with fail
          refine hK.out _ _ trivial (fun hHeld => ?_)
          clear hK K
          replace hT := hT.trans (Turns.of hb1 (Nat.le_of_lt hV.lt))
          replace hV := hV.call hb1
          try simp only [Act.put, List.setIfInBounds_toArray, List.set_cons_zero, List.set_cons_succ]
          refine wpAnyH_take (i := 9) (oi := ?et100o) (v := .string ⟨(Lib.repeatL t.data.toList q.toNat).toArray⟩) ?et100h (by kernel_rfl) (by kernel_rfl) (by kernel_rfl) ?et100q (Or.inl ⟨?et100w, ?et100y⟩) (by assumption) ?et100r
          case et100h => rw [List.getElem?_toArray]; rfl
          case et100q => exact fun _ _ _ h => h
          case et100w => rfl
          case et100y =>
            intro w hSw
            go_simp
          simp only [Act.put, List.setIfInBounds_toArray, List.set_cons_zero, List.set_cons_succ]
          refine wpAnyH_done (by kernel_rfl) ?_ _
          go_wp2_with fail
          go_ret
          exact ⟨_, _, rep_size t q ht1 hq.2, by omega, rfl, hV, hT⟩
    case eb5s =>
      go_simp
      refine hK.out _ _ trivial (fun hHeld => ?_)
      clear hK K
      obtain ⟨hB, hBg, hO, hT, hV⟩ := blk_new hV hT (.cells #[.int .i64 49, .int .i64 50, .int .i64 51, .int .i64 99, .int .i64 100, .int .i64 101] 3)
      clear hO
      try simp only [Act.put, List.setIfInBounds_toArray, List.set_cons_zero, List.set_cons_succ]
      generalize (World.heap W0).size = gB at hB hBg ⊢
      generalize World.alloc W0 _ = ew101 at hV hT hB  ⊢
      refine wpAnyH_ready (rs := [0, 2]) (by kernel_rfl) (by simp) ?_
      refine AllReadyH.cons (o := ?eb102o) ?eb102h (fun K hK => ?eb102s) (AllReadyH.cons (o := ?eb103o) ?eb103h (fun K hK => ?eb103s) AllReadyH.nil)
      case eb102h => rw [List.getElem?_toArray]; rfl
      case eb103h => rw [List.getElem?_toArray]; rfl
      case eb102s =>
        go_simp
        refine hK.out _ _ trivial (fun hHeld => ?_)
        clear hK K
        obtain ⟨hA, hAg, hO, hT, hV⟩ := blk_new hV hT (.cells #[.string ⟨#[97]⟩, .string ⟨#[39]⟩, .string ⟨#[92]⟩, .string ⟨#[37]⟩] 9)
        replace hB := hO hB
        clear hO
        try simp only [Act.put, List.setIfInBounds_toArray, List.set_cons_zero, List.set_cons_succ]
        generalize (World.heap ew101).size = gA at hA hAg ⊢
        generalize World.alloc ew101 _ = ew104 at hV hT hA hB ⊢
        refine wpAnyH_ready (rs := [2]) (by kernel_rfl) (by simp) ?_
        refine AllReadyH.cons (o := ?eb105o) ?eb105h (fun K hK => ?eb105s) AllReadyH.nil
        case eb105h => rw [List.getElem?_toArray]; rfl
        go_simp
        with_reducible refine Calls.mono (Tryz.nextL hV (by omega) _ (by omega) (by omega)) ?_
        rintro e ew106 ⟨r, hr1, hr2, rfl, hV2, hT2⟩
        obtain ⟨k, rfl⟩ := Int.eq_ofNat_of_zero_le hr1
        have hk : k < 4 := by omega
        clear hr1 hr2
        go_wp2_with fail
        refine hK.out _ _ trivial (fun hHeld => ?_)
        clear hK K
        replace hA := hT2.block hA hAg
        replace hB := hT2.block hB hBg
        replace hT := hT.trans hT2
        replace hV := hV2
        clear hT2 hV2
        try simp only [Act.put, List.setIfInBounds_toArray, List.set_cons_zero, List.set_cons_succ]
        refine wpAnyH_take (i := 3) (oi := ?et107o) (v := .pointer (some ⟨gA, k, none⟩)) ?et107h (by kernel_rfl) (by kernel_rfl) (by kernel_rfl) ?et107q (Or.inl ⟨?et107w, ?et107y⟩) (by assumption) ?et107r
        case et107h => rw [List.getElem?_toArray]; rfl
        case et107q => exact fun _ _ _ h => h
        case et107w => rfl
        case et107y =>
          intro w hSw
          go_simp
          intro hk4
          exfalso
          omega
        simp only [Act.put, List.setIfInBounds_toArray, List.set_cons_zero, List.set_cons_succ]
        refine wpAnyH_ready (rs := [4, 7]) (by kernel_rfl) (by simp) ?_
        refine AllReadyH.cons (o := ?eb108o) ?eb108h (fun K hK => ?eb108s) (AllReadyH.cons (o := ?eb109o) ?eb109h (fun K hK => ?eb109s) AllReadyH.nil)
        case eb108h => rw [List.getElem?_toArray]; rfl
        case eb109h => rw [List.getElem?_toArray]; rfl
        case eb108s =>
          obtain ⟨t, ht1, ht2⟩ := row4 hA hk
          go_simp
          refine hK.out _ _ trivial (fun hHeld => ?_)
          clear hK K ht2
          try simp only [Act.put, List.setIfInBounds_toArray, List.set_cons_zero, List.set_cons_succ]
          refine wpAnyH_ready (rs := [7]) (by kernel_rfl) (by simp) ?_
          refine AllReadyH.cons (o := ?eb110o) ?eb110h (fun K hK => ?eb110s) AllReadyH.nil
          case eb110h => rw [List.getElem?_toArray]; rfl
          have hPk := Tryz.pickL hV (by omega) gB 6 [49, 50, 51, 99, 100, 101] rfl hBg hB (by decide) (by decide)
          go_simp
          with_reducible refine Calls.mono hPk ?_
          rintro e ew111 ⟨q, hq0, rfl, hV2, hT2⟩
          have hq : 49 ≤ q ∧ q ≤ 101 := by simp only [List.mem_cons, List.mem_nil_iff, or_false] at hq0; omega
          clear hq0
          go_wp2_with fail
          refine hK.out _ _ trivial (fun hHeld => ?_)
          clear hK K
          replace hA := hT2.block hA hAg
          replace hB := hT2.block hB hBg
          replace hT := hT.trans hT2
          replace hV := hV2
          clear hT2 hV2
          try simp only [Act.put, List.setIfInBounds_toArray, List.set_cons_zero, List.set_cons_succ]
          refine wpAnyH_ready (rs := [8]) (by kernel_rfl) (by simp) ?_
          refine AllReadyH.cons (o := ?eb112o) ?eb112h (fun K hK => ?eb112s) AllReadyH.nil
          case eb112h => rw [List.getElem?_toArray]; rfl
          go_simp
          with_reducible refine Calls.mono (Tryz.repeatF t q (by omega) (by omega) (by omega) _) ?_
          rintro e ew113 ⟨rfl, hb1⟩
          go_wp2_with fail
          refine hK.out _ _ trivial (fun hHeld => ?_)
          clear hK K
          replace hT := hT.trans (Turns.of hb1 (Nat.le_of_lt hV.lt))
          replace hV := hV.call hb1
          try simp only [Act.put, List.setIfInBounds_toArray, List.set_cons_zero, List.set_cons_succ]
          refine wpAnyH_take (i := 9) (oi := ?et114o) (v := .string ⟨(Lib.repeatL t.data.toList q.toNat).toArray⟩) ?et114h (by kernel_rfl) (by kernel_rfl) (by kernel_rfl) ?et114q (Or.inl ⟨?et114w, ?et114y⟩) (by assumption) ?et114r
          case et114h => rw [List.getElem?_toArray]; rfl
          case et114q => exact fun _ _ _ h => h
          case et114w => rfl
          case et114y =>
            intro w hSw
            go_simp
          simp only [Act.put, List.setIfInBounds_toArray, List.set_cons_zero, List.set_cons_succ]
          refine wpAnyH_done (by kernel_rfl) ?_ _
          go_wp2_with fail
          go_ret
          exact ⟨_, _, rep_size t q ht1 hq.2, by omega, rfl, hV, hT⟩
        case eb109s =>
          have hPk := Tryz.pickL hV (by omega) gB 6 [49, 50, 51, 99, 100, 101] rfl hBg hB (by decide) (by decide)
          go_simp
          with_reducible refine Calls.mono hPk ?_
          rintro e ew115 ⟨q, hq0, rfl, hV2, hT2⟩
          have hq : 49 ≤ q ∧ q ≤ 101 := by simp only [List.mem_cons, List.mem_nil_iff, or_false] at hq0; omega
          clear hq0
          go_wp2_with fail
          refine hK.out _ _ trivial (fun hHeld => ?_)
          clear hK K
          replace hA := hT2.block hA hAg
          replace hB := hT2.block hB hBg
          replace hT := hT.trans hT2
          replace hV := hV2
          clear hT2 hV2
          try simp only [Act.put, List.setIfInBounds_toArray, List.set_cons_zero, List.set_cons_succ]
          refine wpAnyH_ready (rs := [4]) (by kernel_rfl) (by simp) ?_
          refine AllReadyH.cons (o := ?eb116o) ?eb116h (fun K hK => ?eb116s) AllReadyH.nil
          case eb116h => rw [List.getElem?_toArray]; rfl
          obtain ⟨t, ht1, ht2⟩ := row4 hA hk
          go_simp
          refine hK.out _ _ trivial (fun hHeld => ?_)
          clear hK K ht2
          try simp only [Act.put, List.setIfInBounds_toArray, List.set_cons_zero, List.set_cons_succ]
          refine wpAnyH_ready (rs := [8]) (by kernel_rfl) (by simp) ?_
          refine AllReadyH.cons (o := ?eb117o) ?eb117h (fun K hK => ?eb117s) AllReadyH.nil
          case eb117h => rw [List.getElem?_toArray]; rfl
          go_simp
          with_reducible refine Calls.mono (Tryz.repeatF t q (by omega) (by omega) (by omega) _) ?_
          rintro e ew118 ⟨rfl, hb1⟩
          go_wp2_with fail
          refine hK.out _ _ trivial (fun hHeld => ?_)
          clear hK K
          replace hT := hT.trans (Turns.of hb1 (Nat.le_of_lt hV.lt))
          replace hV := hV.call hb1
          try simp only [Act.put, List.setIfInBounds_toArray, List.set_cons_zero, List.set_cons_succ]
          refine wpAnyH_take (i := 9) (oi := ?et119o) (v := .string ⟨(Lib.repeatL t.data.toList q.toNat).toArray⟩) ?et119h (by kernel_rfl) (by kernel_rfl) (by kernel_rfl) ?et119q (Or.inl ⟨?et119w, ?et119y⟩) (by assumption) ?et119r
          case et119h => rw [List.getElem?_toArray]; rfl
          case et119q => exact fun _ _ _ h => h
          case et119w => rfl
          case et119y =>
            intro w hSw
            go_simp
          simp only [Act.put, List.setIfInBounds_toArray, List.set_cons_zero, List.set_cons_succ]
          refine wpAnyH_done (by kernel_rfl) ?_ _
          go_wp2_with fail
          go_ret
          exact ⟨_, _, rep_size t q ht1 hq.2, by omega, rfl, hV, hT⟩
      case eb103s =>
        go_simp
        with_reducible refine Calls.mono (Tryz.nextL hV (by omega) _ (by omega) (by omega)) ?_
        rintro e ew120 ⟨r, hr1, hr2, rfl, hV2, hT2⟩
        obtain ⟨k, rfl⟩ := Int.eq_ofNat_of_zero_le hr1
        have hk : k < 4 := by omega
        clear hr1 hr2
        go_wp2_with fail
        refine hK.out _ _ trivial (fun hHeld => ?_)
        clear hK K
        replace hB := hT2.block hB hBg
        replace hT := hT.trans hT2
        replace hV := hV2
        clear hT2 hV2
        try simp only [Act.put, List.setIfInBounds_toArray, List.set_cons_zero, List.set_cons_succ]
        refine wpAnyH_ready (rs := [0, 7]) (by kernel_rfl) (by simp) ?_
        refine AllReadyH.cons (o := ?eb121o) ?eb121h (fun K hK => ?eb121s) (AllReadyH.cons (o := ?eb122o) ?eb122h (fun K hK => ?eb122s) AllReadyH.nil)
        case eb121h => rw [List.getElem?_toArray]; rfl
        case eb122h => rw [List.getElem?_toArray]; rfl
        case eb121s =>
          go_simp
          refine hK.out _ _ trivial (fun hHeld => ?_)
          clear hK K
          obtain ⟨hA, hAg, hO, hT, hV⟩ := blk_new hV hT (.cells #[.string ⟨#[97]⟩, .string ⟨#[39]⟩, .string ⟨#[92]⟩, .string ⟨#[37]⟩] 9)
          replace hB := hO hB
          clear hO
          try simp only [Act.put, List.setIfInBounds_toArray, List.set_cons_zero, List.set_cons_succ]
          generalize (World.heap ew120).size = gA at hA hAg ⊢
          generalize World.alloc ew120 _ = ew123 at hV hT hA hB ⊢
          refine wpAnyH_take (i := 3) (oi := ?et124o) (v := .pointer (some ⟨gA, k, none⟩)) ?et124h (by kernel_rfl) (by kernel_rfl) (by kernel_rfl) ?et124q (Or.inl ⟨?et124w, ?et124y⟩) (by assumption) ?et124r
          case et124h => rw [List.getElem?_toArray]; rfl
          case et124q => exact fun _ _ _ h => h
          case et124w => rfl
          case et124y =>
            intro w hSw
            go_simp
            intro hk4
            exfalso
            omega
          simp only [Act.put, List.setIfInBounds_toArray, List.set_cons_zero, List.set_cons_succ]
          refine wpAnyH_ready (rs := [4, 7]) (by kernel_rfl) (by simp) ?_
          refine AllReadyH.cons (o := ?eb125o) ?eb125h (fun K hK => ?eb125s) (AllReadyH.cons (o := ?eb126o) ?eb126h (fun K hK => ?eb126s) AllReadyH.nil)
          case eb125h => rw [List.getElem?_toArray]; rfl
          case eb126h => rw [List.getElem?_toArray]; rfl
          case eb125s =>
            obtain ⟨t, ht1, ht2⟩ := row4 hA hk
            go_simp
            refine hK.out _ _ trivial (fun hHeld => ?_)
            clear hK K ht2
            try simp only [Act.put, List.setIfInBounds_toArray, List.set_cons_zero, List.set_cons_succ]
            refine wpAnyH_ready (rs := [7]) (by kernel_rfl) (by simp) ?_
            refine AllReadyH.cons (o := ?eb127o) ?eb127h (fun K hK => ?eb127s) AllReadyH.nil
            case eb127h => rw [List.getElem?_toArray]; rfl
            have hPk := Tryz.pickL hV (by omega) gB 6 [49, 50, 51, 99, 100, 101] rfl hBg hB (by decide) (by decide)
            go_simp
            with_reducible refine Calls.mono hPk ?_
            rintro e ew128 ⟨q, hq0, rfl, hV2, hT2⟩
            have hq : 49 ≤ q ∧ q ≤ 101 := by simp only [List.mem_cons, List.mem_nil_iff, or_false] at hq0; omega
            clear hq0
            go_wp2_with fail
            refine hK.out _ _ trivial (fun hHeld => ?_)
            clear hK K
            replace hA := hT2.block hA hAg
            replace hB := hT2.block hB hBg
            replace hT := hT.trans hT2
            replace hV := hV2
            clear hT2 hV2
            try simp only [Act.put, List.setIfInBounds_toArray, List.set_cons_zero, List.set_cons_succ]
            refine wpAnyH_ready (rs := [8]) (by kernel_rfl) (by simp) ?_
            refine AllReadyH.cons (o := ?eb129o) ?eb129h (fun K hK => ?eb129s) AllReadyH.nil
            case eb129h => rw [List.getElem?_toArray]; rfl
            go_simp
            with_reducible refine Calls.mono (Tryz.repeatF t q (by omega) (by omega) (by omega) _) ?_
            rintro e ew130 ⟨rfl, hb1⟩
            go_wp2_with fail
            refine hK.out _ _ trivial (fun hHeld => ?_)
            clear hK K
            replace hT := hT.trans (Turns.of hb1 (Nat.le_of_lt hV.lt))
            replace hV := hV.call hb1
            try simp only [Act.put, List.setIfInBounds_toArray, List.set_cons_zero, List.set_cons_succ]
            refine wpAnyH_take (i := 9) (oi := ?et131o) (v := .string ⟨(Lib.repeatL t.data.toList q.toNat).toArray⟩) ?et131h (by kernel_rfl) (by kernel_rfl) (by kernel_rfl) ?et131q (Or.inl ⟨?et131w, ?et131y⟩) (by assumption) ?et131r
            case et131h => rw [List.getElem?_toArray]; rfl
            case et131q => exact fun _ _ _ h => h
            case et131w => rfl
            case et131y =>
              intro w hSw
              go_simp
            simp only [Act.put, List.setIfInBounds_toArray, List.set_cons_zero, List.set_cons_succ]
            refine wpAnyH_done (by kernel_rfl) ?_ _
            go_wp2_with fail
            go_ret
            exact ⟨_, _, rep_size t q ht1 hq.2, by omega, rfl, hV, hT⟩
          case eb126s =>
            have hPk := Tryz.pickL hV (by omega) gB 6 [49, 50, 51, 99, 100, 101] rfl hBg hB (by decide) (by decide)
            go_simp
            with_reducible refine Calls.mono hPk ?_
            rintro e ew132 ⟨q, hq0, rfl, hV2, hT2⟩
            have hq : 49 ≤ q ∧ q ≤ 101 := by simp only [List.mem_cons, List.mem_nil_iff, or_false] at hq0; omega
            clear hq0
            go_wp2_with fail
            refine hK.out _ _ trivial (fun hHeld => ?_)
            clear hK K
            replace hA := hT2.block hA hAg
            replace hB := hT2.block hB hBg
            replace hT := hT.trans hT2
            replace hV := hV2
            clear hT2 hV2
            try simp only [Act.put, List.setIfInBounds_toArray, List.set_cons_zero, List.set_cons_succ]
            refine wpAnyH_ready (rs := [4]) (by kernel_rfl) (by simp) ?_
            refine AllReadyH.cons (o := ?eb133o) ?eb133h (fun K hK => ?eb133s) AllReadyH.nil
            case eb133h => rw [List.getElem?_toArray]; rfl
            obtain ⟨t, ht1, ht2⟩ := row4 hA hk
            go_simp
            refine hK.out _ _ trivial (fun hHeld => ?_)
            clear hK K ht2
            try simp only [Act.put, List.setIfInBounds_toArray, List.set_cons_zero, List.set_cons_succ]
            refine wpAnyH_ready (rs := [8]) (by kernel_rfl) (by simp) ?_
            refine AllReadyH.cons (o := ?eb134o) ?eb134h (fun K hK => ?eb134s) AllReadyH.nil
            case eb134h => rw [List.getElem?_toArray]; rfl
            go_simp
            with_reducible refine Calls.mono (Tryz.repeatF t q (by omega) (by omega) (by omega) _) ?_
            rintro e ew135 ⟨rfl, hb1⟩
            go_wp2_with fail
            refine hK.out _ _ trivial (fun hHeld => ?_)
            clear hK K
            replace hT := hT.trans (Turns.of hb1 (Nat.le_of_lt hV.lt))
            replace hV := hV.call hb1
            try simp only [Act.put, List.setIfInBounds_toArray, List.set_cons_zero, List.set_cons_succ]
            refine wpAnyH_take (i := 9) (oi := ?et136o) (v := .string ⟨(Lib.repeatL t.data.toList q.toNat).toArray⟩) ?et136h (by kernel_rfl) (by kernel_rfl) (by kernel_rfl) ?et136q (Or.inl ⟨?et136w, ?et136y⟩) (by assumption) ?et136r
            case et136h => rw [List.getElem?_toArray]; rfl
            case et136q => exact fun _ _ _ h => h
            case et136w => rfl
            case et136y =>
              intro w hSw
              go_simp
            simp only [Act.put, List.setIfInBounds_toArray, List.set_cons_zero, List.set_cons_succ]
            refine wpAnyH_done (by kernel_rfl) ?_ _
            go_wp2_with fail
            go_ret
            exact ⟨_, _, rep_size t q ht1 hq.2, by omega, rfl, hV, hT⟩
        case eb122s =>
          have hPk := Tryz.pickL hV (by omega) gB 6 [49, 50, 51, 99, 100, 101] rfl hBg hB (by decide) (by decide)
          go_simp
          with_reducible refine Calls.mono hPk ?_
          rintro e ew137 ⟨q, hq0, rfl, hV2, hT2⟩
          have hq : 49 ≤ q ∧ q ≤ 101 := by simp only [List.mem_cons, List.mem_nil_iff, or_false] at hq0; omega
          clear hq0
          go_wp2_with fail
          refine hK.out _ _ trivial (fun hHeld => ?_)
          clear hK K
          replace hB := hT2.block hB hBg
          replace hT := hT.trans hT2
          replace hV := hV2
          clear hT2 hV2
          try simp only [Act.put, List.setIfInBounds_toArray, List.set_cons_zero, List.set_cons_succ]
          refine wpAnyH_ready (rs := [0]) (by kernel_rfl) (by simp) ?_
          refine AllReadyH.cons (o := ?eb138o) ?eb138h (fun K hK => ?eb138s) AllReadyH.nil
          case eb138h => rw [List.getElem?_toArray]; rfl
          go_simp
          refine hK.out _ _ trivial (fun hHeld => ?_)
          clear hK K
          obtain ⟨hA, hAg, hO, hT, hV⟩ := blk_new hV hT (.cells #[.string ⟨#[97]⟩, .string ⟨#[39]⟩, .string ⟨#[92]⟩, .string ⟨#[37]⟩] 9)
          replace hB := hO hB
          clear hO
          try simp only [Act.put, List.setIfInBounds_toArray, List.set_cons_zero, List.set_cons_succ]
          generalize (World.heap ew137).size = gA at hA hAg ⊢
          generalize World.alloc ew137 _ = ew139 at hV hT hA hB ⊢
          refine wpAnyH_take (i := 3) (oi := ?et140o) (v := .pointer (some ⟨gA, k, none⟩)) ?et140h (by kernel_rfl) (by kernel_rfl) (by kernel_rfl) ?et140q (Or.inl ⟨?et140w, ?et140y⟩) (by assumption) ?et140r
          case et140h => rw [List.getElem?_toArray]; rfl
          case et140q => exact fun _ _ _ h => h
          case et140w => rfl
          case et140y =>
            intro w hSw
            go_simp
            intro hk4
            exfalso
            omega
          simp only [Act.put, List.setIfInBounds_toArray, List.set_cons_zero, List.set_cons_succ]
          refine wpAnyH_ready (rs := [4]) (by kernel_rfl) (by simp) ?_
          refine AllReadyH.cons (o := ?eb141o) ?eb141h (fun K hK => ?eb141s) AllReadyH.nil
          case eb141h => rw [List.getElem?_toArray]; rfl
          obtain ⟨t, ht1, ht2⟩ := row4 hA hk
          go_simp
          refine hK.out _ _ trivial (fun hHeld => ?_)
          clear hK K ht2
          try simp only [Act.put, List.setIfInBounds_toArray, List.set_cons_zero, List.set_cons_succ]
          refine wpAnyH_ready (rs := [8]) (by kernel_rfl) (by simp) ?_
          refine AllReadyH.cons (o := ?eb142o) ?eb142h (fun K hK => ?eb142s) AllReadyH.nil
          case eb142h => rw [List.getElem?_toArray]; rfl
          go_simp
          with_reducible refine Calls.mono (Tryz.repeatF t q (by omega) (by omega) (by omega) _) ?_
          rintro e ew143 ⟨rfl, hb1⟩
          go_wp2_with fail
          refine hK.out _ _ trivial (fun hHeld => ?_)
          clear hK K
          replace hT := hT.trans (Turns.of hb1 (Nat.le_of_lt hV.lt))
          replace hV := hV.call hb1
          try simp only [Act.put, List.setIfInBounds_toArray, List.set_cons_zero, List.set_cons_succ]
          refine wpAnyH_take (i := 9) (oi := ?et144o) (v := .string ⟨(Lib.repeatL t.data.toList q.toNat).toArray⟩) ?et144h (by kernel_rfl) (by kernel_rfl) (by kernel_rfl) ?et144q (Or.inl ⟨?et144w, ?et144y⟩) (by assumption) ?et144r
          case et144h => rw [List.getElem?_toArray]; rfl
          case et144q => exact fun _ _ _ h => h
          case et144w => rfl
          case et144y =>
            intro w hSw
            go_simp
          simp only [Act.put, List.setIfInBounds_toArray, List.set_cons_zero, List.set_cons_succ]
          refine wpAnyH_done (by kernel_rfl) ?_ _
          go_wp2_with fail
          go_ret
          exact ⟨_, _, rep_size t q ht1 hq.2, by omega, rfl, hV, hT⟩
  | false =>
    go_wp2_with fail
    obtain ⟨hP, hPg, hO, hT, hV⟩ := blk_new hV hT (.cells #[.string ⟨#[97]⟩, .string ⟨#[98]⟩, .string ⟨#[97, 98]⟩, .string ⟨#[]⟩, .string ⟨#[65]⟩, .string ⟨#[37]⟩, .string ⟨#[95]⟩, .string ⟨#[92]⟩, .string ⟨#[39]⟩, .string ⟨#[32]⟩, .string ⟨#[48]⟩, .string ⟨#[49, 50]⟩, .string ⟨#[45, 51]⟩, .string ⟨#[116, 114, 117, 101]⟩, .string ⟨#[120, 44, 121]⟩, .string ⟨#[40]⟩, .string ⟨#[50, 48, 48, 48, 45, 48, 50, 45, 50, 57, 84, 48, 48, 58, 48, 48, 58, 48, 48]⟩] 9)
    clear hO
    generalize (World.heap w1).size = gP at hP hPg ⊢
    generalize World.alloc w1 _ = W1 at hV hT hP ⊢
    refine (Tryz.rangeL hV (by omega) _ _ (by omega) (by omega) (by omega)).mono ?_
    rintro e W2 ⟨r, hr1, hr2, rfl, hV2, hT2⟩
    replace hP := hT2.block hP hPg
    replace hT := hT.trans hT2
    go_wp2_with fail
    go_loopw [4, 19] (fun t i wr => ∃ (j : Nat) (s : ByteArray) (b : Int), t = .string s ∧ i = .int .i64 j ∧ (j : Int) ≤ r ∧ s.size ≤ 19 * j ∧ b ≤ a + 2 + j ∧ Live wr g N ad zs cap b ∧ Turns g w wr ∧ wr.heap[gP]? = some (.cells #[.string ⟨#[97]⟩, .string ⟨#[98]⟩, .string ⟨#[97, 98]⟩, .string ⟨#[]⟩, .string ⟨#[65]⟩, .string ⟨#[37]⟩, .string ⟨#[95]⟩, .string ⟨#[92]⟩, .string ⟨#[39]⟩, .string ⟨#[32]⟩, .string ⟨#[48]⟩, .string ⟨#[49, 50]⟩, .string ⟨#[45, 51]⟩, .string ⟨#[116, 114, 117, 101]⟩, .string ⟨#[120, 44, 121]⟩, .string ⟨#[40]⟩, .string ⟨#[50, 48, 48, 48, 45, 48, 50, 45, 50, 57, 84, 48, 48, 58, 48, 48, 58, 48, 48]⟩] 9)) (fun _ i _ => (4 - intOf i).toNat)
    case atStart => exact ⟨0, ⟨#[]⟩, _, rfl, rfl, by omega, by decide, by omega, hV2, hT, hP⟩
    case round =>
      obtain ⟨j, s, b, rfl, rfl, hj, hsj, hbj, hVr, hTr, hPr⟩ := hrel
      clear hV hT hP hV2 hT2 h
      by_cases hlt : (j : Int) < r
      · go_wp2_with fail
        refine (Tryz.nextL hVr (by omega) _ (by omega) (by omega)).mono ?_
        rintro e W3 ⟨q, hq1, hq2, rfl, hV3, hT3⟩
        obtain ⟨k, rfl⟩ := Int.eq_ofNat_of_zero_le hq1
        have hk : k < 17 := by omega
        replace hPr := hT3.block hPr hPg
        obtain ⟨t, ht1, ht2⟩ := row17 hPr hk
        go_wp2_with fail
        go_roundw
        case rel => exact ⟨j + 1, s ++ t, _, rfl, by go_num, by omega, by simp; omega, by omega, hV3, hTr.trans hT3, hPr⟩
        case measure => simp [intOf]; omega
      · go_wp2_with fail
        go_ret
        first | exact ⟨s, by omega, b, by omega, rfl, hVr, hTr⟩ | exact ⟨s, b, by omega, by omega, rfl, hVr, hTr⟩

/-- Full on its way: its result, and the value that it makes. -/
structure FAt (g : Nat) (w W : World) (x : Val) : Prop where
  res : W.heap[w.heap.size]? = some (.cells #[.int .i64 0, .int .i64 0, .string ⟨#[]⟩] 23)
  val : W.heap[w.heap.size + 1]? = some (.cells #[.int .i64 x.k, .int .i64 x.n, .string x.s] 23)
  turns : Turns g w W

theorem FAt.turn {g : Nat} {w W W' : World} {x : Val} (h : FAt g w W x) (hg : g < w.heap.size) (ht : Turns g W W') : FAt g w W' x :=
  ⟨ht.block h.res (by omega), ht.block h.val (by omega), h.turns.trans ht⟩

theorem FAt.cells {g : Nat} {w W : World} {x : Val} (h : FAt g w W x) :
    (W.cell? ⟨w.heap.size + 1, 0, none⟩ = some (.int .i64 x.k) ∧ W.cell? ⟨w.heap.size + 1, 1, none⟩ = some (.int .i64 x.n) ∧ W.cell? ⟨w.heap.size + 1, 2, none⟩ = some (.string x.s)) ∧
    (W.frozen? ⟨w.heap.size + 1, 0, none⟩ = false ∧ W.frozen? ⟨w.heap.size + 1, 1, none⟩ = false ∧ W.frozen? ⟨w.heap.size + 1, 2, none⟩ = false) := by
  refine ⟨⟨?_, ?_, ?_⟩, ?_, ?_, ?_⟩ <;> simp [World.cell?, World.frozen?, h.val]

theorem Turns.set {g k i : Nat} {w W : World} {v : Value} (h : Turns g w W) (hk : w.heap.size ≤ k) (hg : g ≤ k) : Turns g w (W.setCell ⟨k, i, none⟩ v) :=
  ⟨by rw [size_set]; exact h.size, fun j hj hjg => (block_set_ne (by omega)).trans (h.same j hj hjg), Below.setCell h.below hg _⟩

theorem FAt.setN {g : Nat} {w W : World} {x : Val} (n : Int) (h : FAt g w W x) (hg : g < w.heap.size) : FAt g w (W.setCell ⟨w.heap.size + 1, 1, none⟩ (.int .i64 n)) ⟨x.k, n, x.s⟩ :=
  ⟨(block_set_ne (by omega)).trans h.res, by rw [block_set h.val]; rfl, h.turns.set (by omega) (by omega)⟩

theorem FAt.setS {g : Nat} {w W : World} {x : Val} (s : ByteArray) (h : FAt g w W x) (hg : g < w.heap.size) : FAt g w (W.setCell ⟨w.heap.size + 1, 2, none⟩ (.string s)) ⟨x.k, x.n, s⟩ :=
  ⟨(block_set_ne (by omega)).trans h.res, by rw [block_set h.val]; rfl, h.turns.set (by omega) (by omega)⟩

theorem FAt.start {w : World} {g : Nat} (k : Int) (hg : g < w.heap.size) : FAt g w ((w.alloc (.cells #[.int .i64 0, .int .i64 0, .string ⟨#[]⟩] 23)).alloc (.cells #[.int .i64 k, .int .i64 0, .string ⟨#[]⟩] 23)) ⟨k, 0, ⟨#[]⟩⟩ := by
  have e1 : (w.alloc (.cells #[.int .i64 0, .int .i64 0, .string ⟨#[]⟩] 23)).heap.size = w.heap.size + 1 := alloc_size _ _
  refine ⟨(heap_alloc_old _ _ (by omega)).trans (heap_alloc_new w _), by rw [← e1]; exact heap_alloc_new _ _, (Turns.new _ (by omega)).trans (Turns.new _ (by omega))⟩

set_option maxRecDepth 20000 in
set_option maxHeartbeats 4000000 in
theorem Tryz.full {w : World} {g N : Nat} {ad : Option Addr} {zs : List Int} {cap : Nat} {a : Int} (h : Live w g N ad zs cap a) (ha : a < 90000) (k : Int) (hk : 1 ≤ k ∧ k ≤ 4) :
    Calls Tryz.prog 215 #[.pointer (some ⟨g, 0, none⟩), .int .i64 k] w fun e w' => ∃ (x : Val) (b : Int), x.k = k ∧ x.s.size ≤ 1000 ∧ b ≤ a + 6 ∧ e = .returned x.v ∧ Live w' g N ad zs cap b ∧ Turns g w w' := by
  have hg := h.lt
  have hF0 := FAt.start k hg
  have hV0 := (h.alloc (.cells #[.int .i64 0, .int .i64 0, .string ⟨#[]⟩] 23)).alloc (.cells #[.int .i64 k, .int .i64 0, .string ⟨#[]⟩] 23)
  rcases (show k = 1 ∨ k = 2 ∨ k = 3 ∨ k = 4 by omega) with rfl | rfl | rfl | rfl
  · go_enter Tryz.func215, Tryz.ntmps215
    go_wp2_with fail
    generalize ((w.alloc (.cells #[.int .i64 0, .int .i64 0, .string ⟨#[]⟩] 23)).alloc (.cells #[.int .i64 1, .int .i64 0, .string ⟨#[]⟩] 23)) = W0 at hF0 hV0 ⊢
    refine (Tryz.nextL hV0 (by omega) _ (by omega) (by omega)).mono ?_
    rintro e W1 ⟨r, hr1, hr2, rfl, hV1, hT1⟩
    have hF1 := hF0.turn hg hT1
    obtain ⟨⟨c0, c1, c2⟩, f0, f1, f2⟩ := hF1.cells
    go_upto_region 12 with fail
    have hF2 := hF1.setN r hg
    have hV2 := hV1.set (i := 1) (v := .int .i64 r) (Nat.lt_succ_of_lt hg)
    clear c0 c1 c2 f0 f1 f2 hF1 hV1 hF0 hV0 hT1
    generalize W1.setCell ⟨w.heap.size + 1, 1, none⟩ (.int .i64 r) = W2 at hF2 hV2 ⊢
    have hV3 := ((hV2.set (i := 0) (v := .int .i64 (⟨1, r, ⟨#[]⟩⟩ : Val).k) hg).set (i := 1) (v := .int .i64 (⟨1, r, ⟨#[]⟩⟩ : Val).n) hg).set (i := 2) (v := .string (⟨1, r, ⟨#[]⟩⟩ : Val).s) hg
    have hT3 := ((hF2.turns.set (i := 0) (v := .int .i64 (⟨1, r, ⟨#[]⟩⟩ : Val).k) (Nat.le_refl _) (Nat.le_of_lt hg)).set (i := 1) (v := .int .i64 (⟨1, r, ⟨#[]⟩⟩ : Val).n) (Nat.le_refl _) (Nat.le_of_lt hg)).set (i := 2) (v := .string (⟨1, r, ⟨#[]⟩⟩ : Val).s) (Nat.le_refl _) (Nat.le_of_lt hg)
    obtain ⟨⟨c0, c1, c2⟩, f0, f1, f2⟩ := hF2.cells
    obtain ⟨⟨z0, z1, z2⟩, y0, y1, y2⟩ := free_zero hF2.res
    go_wp2_with fail
    exact bodyPost_ret (res_box Tryz.results215 rfl (set3_block ⟨1, r, ⟨#[]⟩⟩ hF2.res)) rfl (by first | exact ⟨⟨1, r, ⟨#[]⟩⟩, rfl, Nat.zero_le _, _, by omega, rfl, hV3, hT3⟩ | exact ⟨⟨1, r, ⟨#[]⟩⟩, _, rfl, Nat.zero_le _, by omega, rfl, hV3, hT3⟩)
  · go_enter Tryz.func215, Tryz.ntmps215
    go_wp2_with fail
    generalize ((w.alloc (.cells #[.int .i64 0, .int .i64 0, .string ⟨#[]⟩] 23)).alloc (.cells #[.int .i64 2, .int .i64 0, .string ⟨#[]⟩] 23)) = W0 at hF0 hV0 ⊢
    refine (Tryz.intL hV0 (by omega)).mono ?_
    rintro e W1 ⟨r, hr1, hr2, rfl, hV1, hT1⟩
    have hF1 := hF0.turn hg hT1
    obtain ⟨⟨c0, c1, c2⟩, f0, f1, f2⟩ := hF1.cells
    go_upto_region 12 with fail
    all_goals clear c0 c1 c2 f0 f1 f2 hF0 hV0 hT1
    all_goals first
      | (have hF2 := hF1.setN (min (max r (-999999999999999)) 999999999999999) hg
         have hV2 := hV1.set (i := 1) (v := .int .i64 (min (max r (-999999999999999)) 999999999999999)) (Nat.lt_succ_of_lt hg)
         generalize W1.setCell ⟨w.heap.size + 1, 1, none⟩ (.int .i64 (min (max r (-999999999999999)) 999999999999999)) = W2 at hF2 hV2 ⊢
         have hV3 := ((hV2.set (i := 0) (v := .int .i64 (⟨2, min (max r (-999999999999999)) 999999999999999, ⟨#[]⟩⟩ : Val).k) hg).set (i := 1) (v := .int .i64 (⟨2, min (max r (-999999999999999)) 999999999999999, ⟨#[]⟩⟩ : Val).n) hg).set (i := 2) (v := .string (⟨2, min (max r (-999999999999999)) 999999999999999, ⟨#[]⟩⟩ : Val).s) hg
         have hT3 := ((hF2.turns.set (i := 0) (v := .int .i64 (⟨2, min (max r (-999999999999999)) 999999999999999, ⟨#[]⟩⟩ : Val).k) (Nat.le_refl _) (Nat.le_of_lt hg)).set (i := 1) (v := .int .i64 (⟨2, min (max r (-999999999999999)) 999999999999999, ⟨#[]⟩⟩ : Val).n) (Nat.le_refl _) (Nat.le_of_lt hg)).set (i := 2) (v := .string (⟨2, min (max r (-999999999999999)) 999999999999999, ⟨#[]⟩⟩ : Val).s) (Nat.le_refl _) (Nat.le_of_lt hg)
         obtain ⟨⟨c0, c1, c2⟩, f0, f1, f2⟩ := hF2.cells
         obtain ⟨⟨z0, z1, z2⟩, y0, y1, y2⟩ := free_zero hF2.res
         go_wp2_with fail
         exact bodyPost_ret (res_box Tryz.results215 rfl (set3_block ⟨2, min (max r (-999999999999999)) 999999999999999, ⟨#[]⟩⟩ hF2.res)) rfl (by first | exact ⟨⟨2, min (max r (-999999999999999)) 999999999999999, ⟨#[]⟩⟩, rfl, Nat.zero_le _, _, by omega, rfl, hV3, hT3⟩ | exact ⟨⟨2, min (max r (-999999999999999)) 999999999999999, ⟨#[]⟩⟩, _, rfl, Nat.zero_le _, by omega, rfl, hV3, hT3⟩))
  · go_enter Tryz.func215, Tryz.ntmps215
    go_wp2_with fail
    generalize ((w.alloc (.cells #[.int .i64 0, .int .i64 0, .string ⟨#[]⟩] 23)).alloc (.cells #[.int .i64 3, .int .i64 0, .string ⟨#[]⟩] 23)) = W0 at hF0 hV0 ⊢
    refine (Tryz.textL hV0 (by omega)).mono ?_
    rintro e W1 ⟨s, b, hs, hb, rfl, hV1, hT1⟩
    have hF1 := hF0.turn hg hT1
    obtain ⟨⟨c0, c1, c2⟩, f0, f1, f2⟩ := hF1.cells
    go_upto_region 10 with fail
    have hF2 := hF1.setS s hg
    have hV2 := hV1.set (i := 2) (v := .string s) (Nat.lt_succ_of_lt hg)
    clear c0 c1 c2 f0 f1 f2 hF1 hV1 hF0 hV0 hT1
    generalize W1.setCell ⟨w.heap.size + 1, 2, none⟩ (.string s) = W2 at hF2 hV2 ⊢
    obtain ⟨⟨c0, c1, c2⟩, f0, f1, f2⟩ := hF2.cells
    by_cases hl : s.size ≤ 100
    · have hlt : ¬ (100 : Int) < s.size := by omega
      go_upto_region 12 with fail
      clear c0 c1 c2 f0 f1 f2
      have hV3 := ((hV2.set (i := 0) (v := .int .i64 (⟨3, 0, s⟩ : Val).k) hg).set (i := 1) (v := .int .i64 (⟨3, 0, s⟩ : Val).n) hg).set (i := 2) (v := .string (⟨3, 0, s⟩ : Val).s) hg
      have hT3 := ((hF2.turns.set (i := 0) (v := .int .i64 (⟨3, 0, s⟩ : Val).k) (Nat.le_refl _) (Nat.le_of_lt hg)).set (i := 1) (v := .int .i64 (⟨3, 0, s⟩ : Val).n) (Nat.le_refl _) (Nat.le_of_lt hg)).set (i := 2) (v := .string (⟨3, 0, s⟩ : Val).s) (Nat.le_refl _) (Nat.le_of_lt hg)
      obtain ⟨⟨c0, c1, c2⟩, f0, f1, f2⟩ := hF2.cells
      obtain ⟨⟨z0, z1, z2⟩, y0, y1, y2⟩ := free_zero hF2.res
      go_wp2_with fail
      exact bodyPost_ret (res_box Tryz.results215 rfl (set3_block ⟨3, 0, s⟩ hF2.res)) rfl (by first | exact ⟨⟨3, 0, s⟩, rfl, hs, _, by omega, rfl, hV3, hT3⟩ | exact ⟨⟨3, 0, s⟩, _, rfl, hs, by omega, rfl, hV3, hT3⟩)
    · have hlt : (100 : Int) < s.size := by omega
      go_upto_region 12 with fail
      have hF3 := hF2.setS (s.extract 0 100) hg
      have hV4 := hV2.set (i := 2) (v := .string (s.extract 0 100)) (Nat.lt_succ_of_lt hg)
      clear c0 c1 c2 f0 f1 f2 hF2 hV2
      generalize W2.setCell ⟨w.heap.size + 1, 2, none⟩ (.string (s.extract 0 100)) = W3 at hF3 hV4 ⊢
      have hF2 := hF3
      have hV2 := hV4
      have hV3 := ((hV2.set (i := 0) (v := .int .i64 (⟨3, 0, s.extract 0 100⟩ : Val).k) hg).set (i := 1) (v := .int .i64 (⟨3, 0, s.extract 0 100⟩ : Val).n) hg).set (i := 2) (v := .string (⟨3, 0, s.extract 0 100⟩ : Val).s) hg
      have hT3 := ((hF2.turns.set (i := 0) (v := .int .i64 (⟨3, 0, s.extract 0 100⟩ : Val).k) (Nat.le_refl _) (Nat.le_of_lt hg)).set (i := 1) (v := .int .i64 (⟨3, 0, s.extract 0 100⟩ : Val).n) (Nat.le_refl _) (Nat.le_of_lt hg)).set (i := 2) (v := .string (⟨3, 0, s.extract 0 100⟩ : Val).s) (Nat.le_refl _) (Nat.le_of_lt hg)
      obtain ⟨⟨c0, c1, c2⟩, f0, f1, f2⟩ := hF2.cells
      obtain ⟨⟨z0, z1, z2⟩, y0, y1, y2⟩ := free_zero hF2.res
      go_wp2_with fail
      exact bodyPost_ret (res_box Tryz.results215 rfl (set3_block ⟨3, 0, s.extract 0 100⟩ hF2.res)) rfl (by first | exact ⟨⟨3, 0, s.extract 0 100⟩, rfl, by show (s.extract 0 100).size ≤ 1000; simp; omega, _, by omega, rfl, hV3, hT3⟩ | exact ⟨⟨3, 0, s.extract 0 100⟩, _, rfl, by show (s.extract 0 100).size ≤ 1000; simp; omega, by omega, rfl, hV3, hT3⟩)
  · go_enter Tryz.func215, Tryz.ntmps215
    go_wp2_with fail
    generalize ((w.alloc (.cells #[.int .i64 0, .int .i64 0, .string ⟨#[]⟩] 23)).alloc (.cells #[.int .i64 4, .int .i64 0, .string ⟨#[]⟩] 23)) = W0 at hF0 hV0 ⊢
    refine (Tryz.rangeL hV0 (by omega) _ _ (by omega) (by omega) (by omega)).mono ?_
    rintro e W1 ⟨q, hq1, hq2, rfl, hV1, hT1⟩
    have hF1 := hF0.turn hg hT1
    go_wp2_with fail
    have hP := heap_alloc_new W1 (.cells #[.int .i64 0, .int .i64 1, .int .i64 59, .int .i64 86399, .int .i64 86400, .int .i64 951782400, .int .i64 951868799, .int .i64 1709164800, .int .i64 1706659200, .int .i64 253402300799, .int .i64 q] 3)
    have hPg : W1.heap.size ≠ g := Ne.symm (Nat.ne_of_lt hV1.lt)
    replace hF1 := hF1.turn hg (Turns.new (.cells #[.int .i64 0, .int .i64 1, .int .i64 59, .int .i64 86399, .int .i64 86400, .int .i64 951782400, .int .i64 951868799, .int .i64 1709164800, .int .i64 1706659200, .int .i64 253402300799, .int .i64 q] 3) (Nat.le_of_lt hV1.lt))
    replace hV1 := hV1.alloc (.cells #[.int .i64 0, .int .i64 1, .int .i64 59, .int .i64 86399, .int .i64 86400, .int .i64 951782400, .int .i64 951868799, .int .i64 1709164800, .int .i64 1706659200, .int .i64 253402300799, .int .i64 q] 3)
    generalize (World.heap W1).size = gP at hP hPg ⊢
    generalize World.alloc W1 (.cells #[.int .i64 0, .int .i64 1, .int .i64 59, .int .i64 86399, .int .i64 86400, .int .i64 951782400, .int .i64 951868799, .int .i64 1709164800, .int .i64 1706659200, .int .i64 253402300799, .int .i64 q] 3) = W3 at hV1 hF1 hP ⊢
    refine (Tryz.pickL hV1 (by omega) gP 11 [0, 1, 59, 86399, 86400, 951782400, 951868799, 1709164800, 1706659200, 253402300799, q] rfl hPg hP (by simp) (by simp)).mono ?_
    rintro e W4 ⟨r, _, rfl, hV4, hT4⟩
    replace hF1 := hF1.turn hg hT4
    obtain ⟨⟨c0, c1, c2⟩, f0, f1, f2⟩ := hF1.cells
    go_upto_region 12 with fail
    have hF2 := hF1.setN r hg
    have hV2 := hV4.set (i := 1) (v := .int .i64 r) (Nat.lt_succ_of_lt hg)
    clear c0 c1 c2 f0 f1 f2 hF1 hV1 hF0 hV0 hT1 hP hT4 hV4
    generalize W4.setCell ⟨w.heap.size + 1, 1, none⟩ (.int .i64 r) = W2 at hF2 hV2 ⊢
    have hV3 := ((hV2.set (i := 0) (v := .int .i64 (⟨4, r, ⟨#[]⟩⟩ : Val).k) hg).set (i := 1) (v := .int .i64 (⟨4, r, ⟨#[]⟩⟩ : Val).n) hg).set (i := 2) (v := .string (⟨4, r, ⟨#[]⟩⟩ : Val).s) hg
    have hT3 := ((hF2.turns.set (i := 0) (v := .int .i64 (⟨4, r, ⟨#[]⟩⟩ : Val).k) (Nat.le_refl _) (Nat.le_of_lt hg)).set (i := 1) (v := .int .i64 (⟨4, r, ⟨#[]⟩⟩ : Val).n) (Nat.le_refl _) (Nat.le_of_lt hg)).set (i := 2) (v := .string (⟨4, r, ⟨#[]⟩⟩ : Val).s) (Nat.le_refl _) (Nat.le_of_lt hg)
    obtain ⟨⟨c0, c1, c2⟩, f0, f1, f2⟩ := hF2.cells
    obtain ⟨⟨z0, z1, z2⟩, y0, y1, y2⟩ := free_zero hF2.res
    go_wp2_with fail
    exact bodyPost_ret (res_box Tryz.results215 rfl (set3_block ⟨4, r, ⟨#[]⟩⟩ hF2.res)) rfl (by first | exact ⟨⟨4, r, ⟨#[]⟩⟩, rfl, Nat.zero_le _, _, by omega, rfl, hV3, hT3⟩ | exact ⟨⟨4, r, ⟨#[]⟩⟩, _, rfl, Nat.zero_le _, by omega, rfl, hV3, hT3⟩)

end Go.Proofs
