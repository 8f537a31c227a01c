/- ShardsBalances: the law. The conditions: two tables of the library. -/
import Derived.Test.YtpmjkpdkkckoaaaGreatDoorTwoM
import Derived.Test.YtpmjkpdkkckoaaaGreatDoorBadM
import Derived.Test.YtpmjkpdkkckoaaaGreatDoorGate
import Derived.Deep.CutRange
namespace Go.Proofs
open Go.RowKit Go.Level

/-- A row of numbers lies there. -/
def Lies (W : World) (v : Value) (n : Nat) : Prop := ∃ ad cap p f, v = .slice ad n cap ∧ (0 < n → ad = some ⟨p, 0, none⟩) ∧ Given W p 0 n f

theorem rep_num : ∀ {k j : Nat}, j < k → (rep [.int .i64 3] k)[j]? = some (.int .i64 3)
  | k + 1, 0, _ => rfl
  | k + 1, j + 1, h => by
    show (Value.int .i64 3 :: rep [.int .i64 3] k)[j + 1]? = _
    rw [List.getElem?_cons_succ]
    exact rep_num (by omega)

theorem lies_rep {W : World} {q k : Nat} (h : W.heap[q]? = some (.cells (rep [.int .i64 3] k).toArray 3)) : Lies W (.slice (some ⟨q, 0, none⟩) k k) k :=
  ⟨_, _, q, fun _ => 3, rfl, fun _ => rfl, fun j hj => by
    unfold World.cell?
    rw [Nat.zero_add, h]
    show (rep [.int .i64 3] k).toArray[j]? = _
    rw [List.getElem?_toArray, rep_num hj]⟩

theorem lies_made {W : World} {q k : Nat} {cs : Array Value} (hz : ∀ j, j < k → cs[j]? = some (.int .i64 0)) (h : W.heap[q]? = some (.cells cs 3)) : Lies W (.slice (some ⟨q, 0, none⟩) k k) k :=
  ⟨_, _, q, fun _ => 0, rfl, fun _ => rfl, fun j hj => by
    unfold World.cell?
    rw [Nat.zero_add, h]
    exact hz j hj⟩

set_option maxRecDepth 20000 in
set_option maxHeartbeats 1500000 in
theorem Tryz.sbLaw (ad : Option Addr) (cap : Nat) (zs : List Int) (w : World) (hz : IntsAt w w.heap.size ad zs) (hl : zs.length ≤ 9223372036854775807)
    (ts : Lib.TabIs Tryz.prog w "strings.asciiSpace" .u8 Lib.asciiSpaceTab) (tp : Lib.TabIs Tryz.prog w "internal/strconv.uint64pow10" .u64 Lib.pow10Tab) :
    Calls Tryz.prog 3 #[.slice ad zs.length cap] w fun e w' => e = .returned (.bool true) ∧ Below w.heap.size w w' := by
  have hT := Two.start w ad zs cap hz hl
  go_enter Tryz.func3, Tryz.ntmps3
  go_upto_region 3 with fail
  generalize w.alloc (.cells #[.slice ad zs.length cap, .int .i64 0] 25) = W1 at hT ⊢
  have hp := Tryz.pickL hT.live (by omega) [1, 2, 3, 8, 0, 9] (by decide) (by decide)
  go_wp2_with fail
  refine Calls.mono hp ?_
  clear hp
  rintro e W2 ⟨n0, hn0, rfl, hL2, hT2⟩
  have hn9 : 0 ≤ n0 ∧ n0 ≤ 9 := by
    simp only [List.mem_cons, List.mem_nil_iff, or_false] at hn0
    omega
  replace hT := hT.turn hL2 hT2
  clear hn0 hL2 hT2
  have hp := Tryz.flipL hT.live (by omega) 2 (by omega) (by omega)
  go_wp2_with fail
  refine Calls.mono hp ?_
  clear hp
  rintro e W3 ⟨fb, rfl, hL3, hT3⟩
  replace hT := hT.turn hL3 hT3
  clear hL3 hT3
  go_upto_if 19 with fail
  go_cut [6] from 20 to 21 (fun s6 wx => ∃ (n : Int) (b : Int), s6 = .int .i64 n ∧ 0 ≤ n ∧ n ≤ 9 ∧ b ≤ 3 ∧ Two w wx ad zs cap b (.slice none 0 0) (.slice none 0 0) [] [])
  case first =>
    cases fb
    · go_wp2_with fail
      go_meet
      exact ⟨n0, _, rfl, hn9.1, hn9.2, by omega, hT⟩
    · have hp := Tryz.rangeL hT.live (by omega) 1 4 (by omega) (by omega) (by omega)
      go_wp2_with fail
      refine Calls.mono hp ?_
      clear hp
      rintro e W4 ⟨r, hr1, hr2, rfl, hL4, hT4⟩
      go_wp2_with fail
      go_meet
      exact ⟨r, _, rfl, by omega, by omega, by omega, hT.turn hL4 hT4⟩
  case rest =>
    clear hT hn9
    obtain ⟨n, b, rfl, hn0, hn9, hb3, hT⟩ := hcut
    have hp := Tryz.pickL hT.live (by omega) [0, 1, 3, 6, 9] (by decide) (by decide)
    go_wp2_with fail
    refine Calls.mono hp ?_
    clear hp
    rintro e W4 ⟨r0, hr0, rfl, hL4, hT4⟩
    obtain ⟨r, rfl, hr9⟩ : ∃ m : Nat, r0 = m ∧ m ≤ 9 := by
      simp only [List.mem_cons, List.mem_nil_iff, or_false] at hr0
      exact ⟨r0.toNat, by omega, by omega⟩
    replace hT := hT.turn hL4 hT4
    clear hr0 hL4 hT4
    go_wp2_with fail
    go_loopw [4, 5, 25] (fun v1 v2 c wr => ∃ (i : Nat) (l1 l2 : List Int) (b : Int), c = .int .i64 i ∧ i ≤ r ∧ l1.length = i ∧ l2.length = i ∧ b ≤ 4 + 2 * i ∧ Two w wr ad zs cap b v1 v2 l1 l2) (fun _ _ c _ => r - (intOf c).toNat)
    case atStart => exact ⟨0, [], [], _, rfl, Nat.zero_le _, rfl, rfl, by omega, hT⟩
    case round =>
      clear hT
      obtain ⟨i, l1, l2, b1, rfl, hi, hl1, hl2, hb1, hT⟩ := hrel
      by_cases hir : i < r
      · have hp := Tryz.pickL hT.live (by omega) [0, 1, 2, 3, 5, 8, 100] (by decide) (by decide)
        go_wp2_with fail
        refine Calls.mono hp ?_
        clear hp
        rintro e W5 ⟨x, hx, rfl, hL5, hT5⟩
        replace hT := hT.turn hL5 hT5
        clear hx hL5 hT5
        have ha1 : l1.length + 1 ≤ 1000 := by omega
        have ha2 : l2.length + 1 ≤ 1000 := by omega
        go_wp2_with (at_builtin; refine Two.append1 ?_ (.tmp 27) (.tmp 31) ?_ hT x ha1 ?_ ?_ ?_; rfl; rfl; rfl; exact ⟨_, rfl, rfl⟩; intro v6 W6 hT6)
        have hp := Tryz.nextL hT6.live (by omega) (max n 1) (by omega) (by omega)
        refine Calls.mono hp ?_
        clear hp
        rintro e W7 ⟨y, hy1, hy2, rfl, hL7, hT7⟩
        replace hT7 := hT6.turn hL7 hT7
        clear hL7 hT6
        go_wp2_with (at_builtin; refine Two.append2 ?_ (.tmp 33) (.tmp 38) ?_ hT7 y ha2 ?_ ?_ ?_; rfl; rfl; rfl; exact ⟨_, rfl, rfl⟩; intro v8 W8 hT8)
        go_roundw
        case rel => exact ⟨i + 1, _, _, _, by go_num, by omega, by rw [List.length_append, hl1]; rfl, by rw [List.length_append, hl2]; rfl, by omega, hT8⟩
        case measure => simp [intOf]; omega
      · have hg1 : l1.length ≤ 9 := by omega
        have hg2 : l2.length ≤ 9 := by omega
        clear hl1 hl2
        have hp := Tryz.flipL hT.live (by omega) 8 (by omega) (by omega)
        go_wp2_with fail
        refine Calls.mono hp ?_
        clear hp
        rintro e W5 ⟨fb, rfl, hL5, hT5⟩
        replace hT := hT.turn hL5 hT5
        clear hL5 hT5
        go_upto_if 42 with fail
        go_cut [4] from 43 to 48 (fun s4 wx => ∃ (l3 : List Int) (b : Int), l3.length ≤ 10 ∧ b ≤ 100 ∧ Two w wx ad zs cap b s4 u5 l3 l2)
        case first =>
          cases fb
          · go_wp2_with fail
            go_meet
            exact ⟨l1, _, by omega, by omega, hT⟩
          · have hp := Tryz.pickL hT.live (by omega) [-1, 4999999999999, 5000000000000] (by decide) (by decide)
            go_wp2_with fail
            refine Calls.mono hp ?_
            clear hp
            rintro e W6 ⟨x, hx, rfl, hL6, hT6⟩
            replace hT := hT.turn hL6 hT6
            clear hx hL6 hT6
            have ha1 : l1.length + 1 ≤ 1000 := by omega
            go_wp2_with (at_builtin; refine Two.append1 ?_ (.tmp 43) (.tmp 47) ?_ hT x ha1 ?_ ?_ ?_; rfl; rfl; rfl; exact ⟨_, rfl, rfl⟩; intro v7 W7 hT7)
            go_meet
            exact ⟨_, _, by rw [List.length_append]; simp; omega, by omega, hT7⟩
        case rest =>
          clear hT
          obtain ⟨l3, b2, hl3, hb2, hT⟩ := hcut
          obtain ⟨ad1, c1, p1, f1, rfl, -, -⟩ := hT.r1.lies
          obtain ⟨ad2, c2, p2, f2, rfl, -, -⟩ := hT.r2.lies
          go_upto_region 12 with fail
          go_cut [58] from 49 to 58 (fun s58 wx => ∃ (q : Bool) (b : Int), s58 = .bool q ∧ b ≤ 200 ∧ Two w wx ad zs cap b (.slice ad1 l3.length c1) (.slice ad2 l2.length c2) l3 l2)
          case first =>
            by_cases hll : l2.length < l3.length
            · have hp := Tryz.flipL hT.live (by omega) 6 (by omega) (by omega)
              go_wp2_with fail
              refine Calls.mono hp ?_
              clear hp
              rintro e W6 ⟨fb, rfl, hL6, hT6⟩
              go_wp2_with fail
              go_meet
              exact ⟨_, _, rfl, by omega, hT.turn hL6 hT6⟩
            · go_wp2_with fail
              go_meet
              exact ⟨_, _, rfl, by omega, hT⟩
          case rest =>
            clear hT
            obtain ⟨q, b3, rfl, hb3, hT⟩ := hcut
            go_upto_if 58 with fail
            go_cut [5] from 59 to 65 (fun s5 wx => ∃ (l4 : List Int) (b : Int), l4.length ≤ 10 ∧ b ≤ 300 ∧ Two w wx ad zs cap b (.slice ad1 l3.length c1) s5 l3 l4)
            case first =>
              cases q
              · go_wp2_with fail
                go_meet
                exact ⟨l2, _, by omega, by omega, hT⟩
              · have hp := Tryz.pickL hT.live (by omega) [0, 0, n, -1] (by simp) (by simp)
                go_wp2_with fail
                refine Calls.mono hp ?_
                clear hp
                rintro e W6 ⟨x, hx, rfl, hL6, hT6⟩
                replace hT := hT.turn hL6 hT6
                clear hx hL6 hT6
                have ha2 : l2.length + 1 ≤ 1000 := by omega
                go_wp2_with (at_builtin; refine Two.append2 ?_ (.tmp 59) (.tmp 64) ?_ hT x ha2 ?_ ?_ ?_; rfl; rfl; rfl; exact ⟨_, rfl, rfl⟩; intro v7 W7 hT7)
                go_meet
                exact ⟨_, _, by rw [List.length_append]; simp; omega, by omega, hT7⟩
            case rest =>
              clear hT
              obtain ⟨l4, b4, hl4, hb4, hT⟩ := hcut
              have hp := Tryz.flipL hT.live (by omega) 30 (by omega) (by omega)
              go_wp2_with fail
              refine Calls.mono hp ?_
              clear hp
              rintro e W6 ⟨fb, rfl, hL6, hT6⟩
              replace hT := hT.turn hL6 hT6
              clear hL6 hT6
              go_upto_if 67 with fail
              go_cut [4, 5] from 68 to 75 (fun s4 s5 wx => ∃ n1 n2 : Nat, Lies wx s4 n1 ∧ Lies wx s5 n2 ∧ Below w.heap.size w wx)
              case first =>
                cases fb
                · go_wp2_with fail
                  go_meet
                  exact ⟨_, _, hT.r1.lies, hT.r2.lies, hT.r1.2.1⟩
                · have hp := Tryz.pickL hT.live (by omega) [199, 200, 201] (by decide) (by decide)
                  go_wp2_with fail
                  refine Calls.mono hp ?_
                  clear hp
                  rintro e W7 ⟨k0, hk0, rfl, hL7, hT7⟩
                  obtain ⟨k, rfl, hk1, hk2⟩ : ∃ m : Nat, k0 = m ∧ 1 ≤ m ∧ m ≤ 1000 := by
                    simp only [List.mem_cons, List.mem_nil_iff, or_false] at hk0
                    exact ⟨k0.toNat, by omega, by omega, by omega⟩
                  replace hT := hT.turn hL7 hT7
                  have hbD := hT.r1.2.1
                  have hsD := hT.r1.2.2
                  clear hk0 hL7 hT7 hT
                  obtain ⟨cs, hcs, hz, hmk⟩ := make_nums hk2
                  have h31 : ∀ v ∈ [Value.int .i64 3], v.oneCell' = true := fun v hv => by
                    rw [List.mem_singleton.1 hv]
                    rfl
                  go_upto_region 16 with fail
                  replace hbD := hbD.drew
                  replace hsD : w.heap.size ≤ W7.drew.heap.size := hsD
                  refine wp_region_held_drew (S := fun _ => True) (by kernel_rfl) True.intro (fun hHeld => ?_)
                  generalize W7.drew = WD at *
                  refine wpAnyH_take (i := 1) (oi := ?rt1o) (v := .int .i64 k) ?rt1h (by kernel_rfl) (by kernel_rfl) (by kernel_rfl) ?rt1q (Or.inl ⟨?rt1w, ?rt1y⟩) (by assumption) ?rt1r
                  case rt1h => rw [List.getElem?_toArray]; rfl
                  case rt1q => exact fun _ _ _ h => h
                  case rt1w => rfl
                  case rt1y =>
                    intro w hSw
                    go_simp
                  simp only [Act.put, List.setIfInBounds_toArray, List.set_cons_zero, List.set_cons_succ]
                  refine wpAnyH_take (i := 3) (oi := ?rt2o) (v := .int .i64 k) ?rt2h (by kernel_rfl) (by kernel_rfl) (by kernel_rfl) ?rt2q (Or.inl ⟨?rt2w, ?rt2y⟩) (by assumption) ?rt2r
                  case rt2h => rw [List.getElem?_toArray]; rfl
                  case rt2q => exact fun _ _ _ h => h
                  case rt2w => rfl
                  case rt2y =>
                    intro w hSw
                    go_simp
                  simp only [Act.put, List.setIfInBounds_toArray, List.set_cons_zero, List.set_cons_succ]
                  refine wpAnyH_ready (rs := [0, 4]) (by kernel_rfl) (by simp) ?_
                  refine AllReadyH.cons (o := ?rb3o) ?rb3h (fun K hK => ?rb3s) (AllReadyH.cons (o := ?rb4o) ?rb4h (fun K hK => ?rb4s) AllReadyH.nil)
                  case rb3h => rw [List.getElem?_toArray]; rfl
                  case rb4h => rw [List.getElem?_toArray]; rfl
                  case rb3s =>
                    go_simp
                    refine hK.out _ _ (True.intro) (fun hHeld => ?_)
                    clear hK K
                    try simp only [Act.put, List.setIfInBounds_toArray, List.set_cons_zero, List.set_cons_succ]
                    refine wpAnyH_ready (rs := [2, 4]) (by kernel_rfl) (by simp) ?_
                    refine AllReadyH.cons (o := ?rb5o) ?rb5h (fun K hK => ?rb5s) (AllReadyH.cons (o := ?rb6o) ?rb6h (fun K hK => ?rb6s) AllReadyH.nil)
                    case rb5h => rw [List.getElem?_toArray]; rfl
                    case rb6h => rw [List.getElem?_toArray]; rfl
                    case rb5s =>
                      go_simp
                      with_reducible refine Calls.mono (Tryz.repeat1 [.int .i64 3] rfl h31 _ k (WD.alloc (.cells #[.int .i64 3] 3)) (by exact heap_alloc_new' WD (.cells #[.int .i64 3] 3)) hk1 hk2) ?_
                      rintro e w4 ⟨rfl, hr4, hs4, hb4⟩
                      go_wp2_with fail
                      refine hK.out _ _ True.intro (fun hHeld => ?_)
                      clear hK K
                      try simp only [Act.put, List.setIfInBounds_toArray, List.set_cons_zero, List.set_cons_succ]
                      refine wpAnyH_take (i := 5) (oi := ?rt7o) (v := ?rt7v) ?rt7h (by kernel_rfl) (by kernel_rfl) (by kernel_rfl) ?rt7q (Or.inl ⟨?rt7w, ?rt7y⟩) (by assumption) ?rt7r
                      case rt7h => rw [List.getElem?_toArray]; rfl
                      case rt7q => exact fun _ _ _ h => h
                      case rt7w => rfl
                      case rt7y =>
                        intro w hSw
                        go_simp
                        first | done | (with_reducible rfl)
                      simp only [Act.put, List.setIfInBounds_toArray, List.set_cons_zero, List.set_cons_succ]
                      refine wpAnyH_ready (rs := [4]) (by kernel_rfl) (by simp) ?_
                      refine AllReadyH.cons (o := ?rb8o) ?rb8h (fun K hK => ?rb8s) AllReadyH.nil
                      case rb8h => rw [List.getElem?_toArray]; rfl
                      go_simp
                      refine hK.out _ _ (True.intro) (fun hHeld => ?_)
                      clear hK K
                      try simp only [Act.put, List.setIfInBounds_toArray, List.set_cons_zero, List.set_cons_succ]
                      refine wpAnyH_take (i := 6) (oi := ?rt9o) (v := ?rt9v) ?rt9h (by kernel_rfl) (by kernel_rfl) (by kernel_rfl) ?rt9q (Or.inl ⟨?rt9w, ?rt9y⟩) (by assumption) ?rt9r
                      case rt9h => rw [List.getElem?_toArray]; rfl
                      case rt9q => exact fun _ _ _ h => h
                      case rt9w => rfl
                      case rt9y =>
                        intro w hSw
                        go_simp
                        first | done | (with_reducible rfl)
                      simp only [Act.put, List.setIfInBounds_toArray, List.set_cons_zero, List.set_cons_succ]
                      refine wpAnyH_done (by kernel_rfl) ?_ _
                      go_wp2_with fail
                      go_meet
                      refine ⟨k, k, lies_rep ?rz10a, lies_made hz ?rz10b, ((hbD.alloc hsD _).trans (hb4.mono (Nat.le_trans hsD (by rw [ex_alloc_size]; omega)))).alloc (Nat.le_trans hsD (by rw [hs4, ex_alloc_size]; omega)) _⟩
                      case rz10a => have h := (heap_alloc_old w4 (.cells cs 3) (blk_lt hr4)).trans hr4; rw [ex_alloc_size] at h; exact h
                      case rz10b => have h := heap_alloc_new' w4 (.cells cs 3); rw [hs4, ex_alloc_size] at h; exact h
                    case rb6s =>
                      go_simp
                      refine hK.out _ _ (True.intro) (fun hHeld => ?_)
                      clear hK K
                      try simp only [Act.put, List.setIfInBounds_toArray, List.set_cons_zero, List.set_cons_succ]
                      refine wpAnyH_ready (rs := [2]) (by kernel_rfl) (by simp) ?_
                      refine AllReadyH.cons (o := ?rb11o) ?rb11h (fun K hK => ?rb11s) AllReadyH.nil
                      case rb11h => rw [List.getElem?_toArray]; rfl
                      go_simp
                      with_reducible refine Calls.mono (Tryz.repeat1 [.int .i64 3] rfl h31 _ k ((WD.alloc (.cells #[.int .i64 3] 3)).alloc (.cells cs 3)) (by exact (heap_alloc_old (WD.alloc (.cells #[.int .i64 3] 3)) (.cells cs 3) (blk_lt (heap_alloc_new' WD (.cells #[.int .i64 3] 3)))).trans (heap_alloc_new' WD (.cells #[.int .i64 3] 3))) hk1 hk2) ?_
                      rintro e w4 ⟨rfl, hr4, hs4, hb4⟩
                      go_wp2_with fail
                      refine hK.out _ _ True.intro (fun hHeld => ?_)
                      clear hK K
                      try simp only [Act.put, List.setIfInBounds_toArray, List.set_cons_zero, List.set_cons_succ]
                      refine wpAnyH_take (i := 5) (oi := ?rt12o) (v := ?rt12v) ?rt12h (by kernel_rfl) (by kernel_rfl) (by kernel_rfl) ?rt12q (Or.inl ⟨?rt12w, ?rt12y⟩) (by assumption) ?rt12r
                      case rt12h => rw [List.getElem?_toArray]; rfl
                      case rt12q => exact fun _ _ _ h => h
                      case rt12w => rfl
                      case rt12y =>
                        intro w hSw
                        go_simp
                        first | done | (with_reducible rfl)
                      simp only [Act.put, List.setIfInBounds_toArray, List.set_cons_zero, List.set_cons_succ]
                      refine wpAnyH_take (i := 6) (oi := ?rt13o) (v := ?rt13v) ?rt13h (by kernel_rfl) (by kernel_rfl) (by kernel_rfl) ?rt13q (Or.inl ⟨?rt13w, ?rt13y⟩) (by assumption) ?rt13r
                      case rt13h => rw [List.getElem?_toArray]; rfl
                      case rt13q => exact fun _ _ _ h => h
                      case rt13w => rfl
                      case rt13y =>
                        intro w hSw
                        go_simp
                        first | done | (with_reducible rfl)
                      simp only [Act.put, List.setIfInBounds_toArray, List.set_cons_zero, List.set_cons_succ]
                      refine wpAnyH_done (by kernel_rfl) ?_ _
                      go_wp2_with fail
                      go_meet
                      refine ⟨k, k, lies_rep ?rz14a, lies_made hz ?rz14b, ((hbD.alloc hsD _).alloc (Nat.le_trans hsD (by rw [ex_alloc_size]; omega)) _).trans (hb4.mono (Nat.le_trans hsD (by rw [ex_alloc_size, ex_alloc_size]; omega)))⟩
                      case rz14a => have h := hr4; rw [ex_alloc_size, ex_alloc_size] at h; exact h
                      case rz14b => have h := heap_kept hb4 (heap_alloc_new' (WD.alloc (.cells #[.int .i64 3] 3)) (.cells cs 3)); rw [ex_alloc_size] at h; exact h
                  case rb4s =>
                    go_simp
                    refine hK.out _ _ (True.intro) (fun hHeld => ?_)
                    clear hK K
                    try simp only [Act.put, List.setIfInBounds_toArray, List.set_cons_zero, List.set_cons_succ]
                    refine wpAnyH_ready (rs := [0]) (by kernel_rfl) (by simp) ?_
                    refine AllReadyH.cons (o := ?rb15o) ?rb15h (fun K hK => ?rb15s) AllReadyH.nil
                    case rb15h => rw [List.getElem?_toArray]; rfl
                    go_simp
                    refine hK.out _ _ (True.intro) (fun hHeld => ?_)
                    clear hK K
                    try simp only [Act.put, List.setIfInBounds_toArray, List.set_cons_zero, List.set_cons_succ]
                    refine wpAnyH_ready (rs := [2]) (by kernel_rfl) (by simp) ?_
                    refine AllReadyH.cons (o := ?rb16o) ?rb16h (fun K hK => ?rb16s) AllReadyH.nil
                    case rb16h => rw [List.getElem?_toArray]; rfl
                    go_simp
                    with_reducible refine Calls.mono (Tryz.repeat1 [.int .i64 3] rfl h31 _ k ((WD.alloc (.cells cs 3)).alloc (.cells #[.int .i64 3] 3)) (by have h := heap_alloc_new' (WD.alloc (.cells cs 3)) (.cells #[.int .i64 3] 3); rw [ex_alloc_size] at h; exact h) hk1 hk2) ?_
                    rintro e w4 ⟨rfl, hr4, hs4, hb4⟩
                    go_wp2_with fail
                    refine hK.out _ _ True.intro (fun hHeld => ?_)
                    clear hK K
                    try simp only [Act.put, List.setIfInBounds_toArray, List.set_cons_zero, List.set_cons_succ]
                    refine wpAnyH_take (i := 5) (oi := ?rt17o) (v := ?rt17v) ?rt17h (by kernel_rfl) (by kernel_rfl) (by kernel_rfl) ?rt17q (Or.inl ⟨?rt17w, ?rt17y⟩) (by assumption) ?rt17r
                    case rt17h => rw [List.getElem?_toArray]; rfl
                    case rt17q => exact fun _ _ _ h => h
                    case rt17w => rfl
                    case rt17y =>
                      intro w hSw
                      go_simp
                      first | done | (with_reducible rfl)
                    simp only [Act.put, List.setIfInBounds_toArray, List.set_cons_zero, List.set_cons_succ]
                    refine wpAnyH_take (i := 6) (oi := ?rt18o) (v := ?rt18v) ?rt18h (by kernel_rfl) (by kernel_rfl) (by kernel_rfl) ?rt18q (Or.inl ⟨?rt18w, ?rt18y⟩) (by assumption) ?rt18r
                    case rt18h => rw [List.getElem?_toArray]; rfl
                    case rt18q => exact fun _ _ _ h => h
                    case rt18w => rfl
                    case rt18y =>
                      intro w hSw
                      go_simp
                      first | done | (with_reducible rfl)
                    simp only [Act.put, List.setIfInBounds_toArray, List.set_cons_zero, List.set_cons_succ]
                    refine wpAnyH_done (by kernel_rfl) ?_ _
                    go_wp2_with fail
                    go_meet
                    refine ⟨k, k, lies_rep ?rz19a, lies_made hz ?rz19b, ((hbD.alloc hsD _).alloc (Nat.le_trans hsD (by rw [ex_alloc_size]; omega)) _).trans (hb4.mono (Nat.le_trans hsD (by rw [ex_alloc_size, ex_alloc_size]; omega)))⟩
                    case rz19a => have h := hr4; rw [ex_alloc_size, ex_alloc_size] at h; exact h
                    case rz19b => exact heap_kept hb4 ((heap_alloc_old (WD.alloc (.cells cs 3)) (.cells #[.int .i64 3] 3) (blk_lt (heap_alloc_new' WD (.cells cs 3)))).trans (heap_alloc_new' WD (.cells cs 3)))
              case rest =>
                clear hT
                obtain ⟨n1, n2, ⟨aL, kL, pL, L, rfl, haL, hGL⟩, ⟨aH, kH, pH, H, rfl, haH, hGH⟩, hbw⟩ := hcut
                obtain ⟨c, H', A, m, hm, hall⟩ := Tryz.both (k := n) kL kH haL haH hGL hGH
                have hc1 := (hall wc (Below.refl _ _)).1
                go_wp2_with fail
                with_reducible refine Calls.mono hc1 ?_
                clear hc1
                rintro e W8 ⟨v8, rfl, hP8⟩
                have hc2 := (hall W8 hP8.2.1).2
                obtain ⟨a8, k8, rfl, hA8⟩ := hP8.at
                have hb8 := hP8.2.1
                clear hP8 hall
                go_wp2_with fail
                with_reducible refine Calls.mono hc2 ?_
                clear hc2
                rintro e W9 ⟨v9, rfl, hP9⟩
                obtain ⟨a9, k9, rfl, hA9⟩ := hP9.at
                have hb9 := hP9.2.1
                have he := Tryz.placesEqual k8 k9 (hA8.next hb9) hA9 (by omega)
                clear hP9
                go_wp2_with fail
                with_reducible refine Calls.mono he ?_
                clear he
                rintro e W10 ⟨rfl, hb10⟩
                have hcl := Tryz.clusters_calls W10 w ts tp (below_next hbw (below_next hb8 (below_next hb9 hb10)))
                go_wp2_with fail
                with_reducible refine Calls.mono hcl ?_
                clear hcl
                rintro e W11 ⟨rfl, hb11⟩
                go_wp2_with fail
                go_ret
                exact ⟨rfl, below_next hbw (below_next hb8 (below_next hb9 (below_next hb10 hb11)))⟩

end Go.Proofs
