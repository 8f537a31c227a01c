/- SchemaOrders: the law. The conditions: two tables of the library. -/
import Derived.Test.YtaikipdjknhjdaaGreatDoorBuild
namespace Go.Proofs
open Go.RowKit Go.Ke Go.Orders

theorem enc_name {i : Nat} (h : i < 6) : Utf8.encode (97 + i) = nameL i := by
  rcases (by omega : i = 0 ∨ i = 1 ∨ i = 2 ∨ i = 3 ∨ i = 4 ∨ i = 5) with h | h | h | h | h | h <;> subst h <;> rfl
theorem enc_for {k : Nat} (h : k < 2) : Utf8.encode (102 + k) = ⟨#[UInt8.ofNat (102 + k)]⟩ := by
  rcases (by omega : k = 0 ∨ k = 1) with h | h <;> subst h <;> rfl

set_option maxRecDepth 20000 in
set_option maxHeartbeats 1500000 in
theorem Tryz.soLaw (ad : Option Addr) (cap : Nat) (zs : List Int) (w : World) (hz : IntsAt w w.heap.size ad zs) (hl : zs.length ≤ 9223372036854775807)
    (ts : Lib.TabIs Tryz.prog w "strings.asciiSpace" .u8 Lib.asciiSpaceTab) (tp : Lib.TabIs Tryz.prog w "internal/strconv.uint64pow10" .u64 Lib.pow10Tab) :
    Calls Tryz.prog 3 #[.slice ad zs.length cap] w fun e w' => e = .returned (.bool true) ∧ Below w.heap.size w w' := by
  have hb0 : Below w.heap.size w (w.alloc (.cells #[.slice ad zs.length cap, .int .i64 0] 25)) := (Below.refl _ _).alloc (Nat.le_refl _) _
  have hs0 : (w.alloc (.cells #[.slice ad zs.length cap, .int .i64 0] 25)).heap.size = w.heap.size + 1 := ex_alloc_size _ _
  have hL0 : Live (w.alloc (.cells #[.slice ad zs.length cap, .int .i64 0] 25)) w.heap.size w.heap.size ad zs cap 0 := ⟨heap_alloc_new' _ _, hz.below hb0, Nat.le_refl _, hl, Int.le_refl _⟩
  have hL1 := hL0.alloc (.cells #[.slice none 0 0] 28)
  have hb1 := below_next hb0 ((Below.refl _ _).alloc (Nat.le_refl _) (.cells #[.slice none 0 0] 28))
  have hx1 := heap_alloc_new' (w.alloc (.cells #[.slice ad zs.length cap, .int .i64 0] 25)) (.cells #[.slice none 0 0] 28)
  rw [hs0] at hx1
  go_enter Tryz.func3, Tryz.ntmps3
  go_upto_region 3 with fail
  generalize (w.alloc (.cells #[.slice ad zs.length cap, .int .i64 0] 25)).alloc (.cells #[.slice none 0 0] 28) = W1 at hL1 hb1 hx1 ⊢
  clear hL0 hs0 hb0
  have hra := Tryz.rangeL hL1 (by omega) 1 6 (by omega) (by omega) (by omega)
  go_wp2_with fail
  refine Calls.mono hra ?_
  rintro e W2 ⟨n0, hn1, hn6, rfl, hL2, hT2⟩
  obtain ⟨n, rfl⟩ : ∃ m : Nat, n0 = m := ⟨n0.toNat, by omega⟩
  have hB0 : Bld w.heap.size w.heap.size ad zs cap w ⟨n, 0, 0, fun _ => 0, fun _ => 0, fun _ => 0, fun _ => 0, fun _ => 0, fun _ _ => 0, fun _ _ => 0⟩ 0 (.slice none 0 0) W2 (0 + 1) :=
    ⟨hL2, hb1.trans (hT2.below), Nat.le_refl _, hT2.block hx1 (by omega), World.ownsRow_nil _ _ _ _, ⟨fun j hj => absurd hj (Nat.not_lt_zero j), fun j hj => absurd hj (Nat.not_lt_zero j), fun j hj => absurd hj (Nat.not_lt_zero j), fun j hj => absurd hj (Nat.not_lt_zero j), fun j hj => absurd hj (Nat.not_lt_zero j), fun j hj => absurd hj (Nat.not_lt_zero j), fun a b ha => absurd ha (Nat.not_lt_zero a), fun a b ha => absurd ha (Nat.not_lt_zero a), fun j hj => absurd hj (Nat.not_lt_zero j)⟩⟩
  clear hra hL1 hb1 hx1 hL2 hT2
  go_wp2_with fail
  go_loopw [20] (fun idx wr => ∃ (i : Nat) (x : Schema) (v : Value) (b : Int), idx = .int .i64 i ∧ i ≤ n ∧ x.n = n ∧ b ≤ 1 + 3 * i ∧ Bld w.heap.size w.heap.size ad zs cap w x i v wr b) (fun idx _ => n - (intOf idx).toNat)
  case atStart => exact ⟨0, _, _, _, rfl, Nat.zero_le _, rfl, by omega, hB0⟩
  case round =>
    obtain ⟨i, x, v, b, rfl, hi, hxn, hb, hB⟩ := hrel
    clear hB0
    by_cases hin : i < n
    · have hen := enc_name (i := i) (by omega)
      have hF := Frn.start hB.live (nameL i) x.n
      unfold colCells idL xL tabC at hF
      go_upto_region 8 with fail
      generalize ((wr.alloc (.cells #[.string ⟨#[105, 100]⟩, .int .i64 2, .bool false, .int .i64 0, .int .i64 0, .string ⟨#[]⟩, .string ⟨#[120]⟩, .int .i64 2, .bool true, .int .i64 0, .int .i64 0, .string ⟨#[]⟩] 33)).alloc (.cells #[.string ⟨#[105, 100]⟩] 9)).alloc (.cells #[.string (nameL i), .slice (some ⟨wr.heap.size, 0, none⟩) 2 2, .slice (some ⟨wr.heap.size + 1, 0, none⟩) 1 1, .slice none 0 0, .slice none 0 0] 39) = WA at hF ⊢
      obtain ⟨wb, rfl⟩ : ∃ wb : World, wb = wr := ⟨_, rfl⟩
      generalize wb.heap.size + 1 + 1 = t at hF ⊢
      generalize wb.heap.size + 1 = kbv at hF ⊢
      generalize hcb : wb.heap.size = cbv at hF ⊢
      replace hcb := Lib.hid hcb
      have hnx := Tryz.nextL hF.live (by omega) 3 (by omega) (by omega)
      go_wp2_with fail
      refine Calls.mono hnx ?_
      rintro e WB ⟨c, hc1, hc2, rfl, hL, hT⟩
      have hF1 := hF.next hT hL
      clear hF hnx hL hT
      go_wp2_with fail
      go_loopw [34] (fun idx wr => ∃ (k : Nat) (xbv tgv : Nat → Nat) (vf : Value) (b2 : Int), idx = .int .i64 k ∧ (k : Int) ≤ c ∧ b2 ≤ b + 1 + k ∧ Frn w.heap.size w.heap.size ad zs cap x.n wb t (nameL i) cbv kbv vf k xbv tgv wr b2) (fun idx _ => 3 - (intOf idx).toNat)
      case atStart => exact ⟨0, _, _, _, _, rfl, by omega, by omega, hF1⟩
      case round =>
        obtain ⟨k, xbv, tgv, vf, b2, rfl, hk, hb2, hF⟩ := hrel
        clear hF1
        by_cases hkc : (k : Int) < c
        · obtain ⟨nk, hnk1, hnk⟩ : ∃ nk, Utf8.encode (102 + k) = nk ∧ Hid (nk = ⟨#[UInt8.ofNat (102 + k)]⟩) := ⟨_, rfl, Lib.hid (enc_for (by omega))⟩
          go_upto_region 11 with fail
          refine wp_region_held_drew (S := fun _ => True) (by kernel_rfl) trivial (fun hHeld => ?_)
          clear hHeld
          replace hF := hF.call (Below.refl _ wr).drew
          generalize World.drew wr = U0 at hF ⊢
          refine wpAnyH_take (i := 0) (oi := ?ut1o) (v := .pointer (some ⟨t, 3, none⟩)) ?ut1h (by kernel_rfl) (by kernel_rfl) (by kernel_rfl) ?ut1q (Or.inl ⟨?ut1w, ?ut1y⟩) trivial ?ut1r
          case ut1h => rw [List.getElem?_toArray]; rfl
          case ut1q => exact fun _ _ _ h => h
          case ut1w => rfl
          case ut1y =>
            intro w hSw
            go_simp
          simp only [Act.put, List.setIfInBounds_toArray, List.set_cons_zero, List.set_cons_succ]
          refine wpAnyH_take (i := 2) (oi := ?ut2o) (v := .int .i64 k) ?ut2h (by kernel_rfl) (by kernel_rfl) (by kernel_rfl) ?ut2q (Or.inl ⟨?ut2w, ?ut2y⟩) trivial ?ut2r
          case ut2h => rw [List.getElem?_toArray]; rfl
          case ut2q => exact fun _ _ _ h => h
          case ut2w => rfl
          case ut2y =>
            intro w hSw
            go_simp
          simp only [Act.put, List.setIfInBounds_toArray, List.set_cons_zero, List.set_cons_succ]
          refine wpAnyH_take (i := 3) (oi := ?ut3o) (v := .int .i64 (102 + k)) ?ut3h (by kernel_rfl) (by kernel_rfl) (by kernel_rfl) ?ut3q (Or.inl ⟨?ut3w, ?ut3y⟩) trivial ?ut3r
          case ut3h => rw [List.getElem?_toArray]; rfl
          case ut3q => exact fun _ _ _ h => h
          case ut3w => rfl
          case ut3y =>
            intro w hSw
            go_simp
            rw [IntKind.wrap_i64]; omega
          simp only [Act.put, List.setIfInBounds_toArray, List.set_cons_zero, List.set_cons_succ]
          refine wpAnyH_take (i := 4) (oi := ?ut4o) (v := .int .i32 (102 + k)) ?ut4h (by kernel_rfl) (by kernel_rfl) (by kernel_rfl) ?ut4q (Or.inl ⟨?ut4w, ?ut4y⟩) trivial ?ut4r
          case ut4h => rw [List.getElem?_toArray]; rfl
          case ut4q => exact fun _ _ _ h => h
          case ut4w => rfl
          case ut4y =>
            intro w hSw
            go_simp
            rw [IntKind.wrap_i32]; omega
          simp only [Act.put, List.setIfInBounds_toArray, List.set_cons_zero, List.set_cons_succ]
          refine wpAnyH_take (i := 5) (oi := ?ut5o) (v := .string nk) ?ut5h (by kernel_rfl) (by kernel_rfl) (by kernel_rfl) ?ut5q (Or.inl ⟨?ut5w, ?ut5y⟩) trivial ?ut5r
          case ut5h => rw [List.getElem?_toArray]; rfl
          case ut5q => exact fun _ _ _ h => h
          case ut5w => rfl
          case ut5y =>
            intro w hSw
            go_simp
          simp only [Act.put, List.setIfInBounds_toArray, List.set_cons_zero, List.set_cons_succ]
          refine wpAnyH_take (i := 7) (oi := ?ut6o) (v := .pointer (some ⟨w.heap.size, 0, none⟩)) ?ut6h (by kernel_rfl) (by kernel_rfl) (by kernel_rfl) ?ut6q (Or.inl ⟨?ut6w, ?ut6y⟩) trivial ?ut6r
          case ut6h => rw [List.getElem?_toArray]; rfl
          case ut6q => exact fun _ _ _ h => h
          case ut6w => rfl
          case ut6y =>
            intro w hSw
            go_simp
          simp only [Act.put, List.setIfInBounds_toArray, List.set_cons_zero, List.set_cons_succ]
          refine wpAnyH_take (i := 8) (oi := ?ut7o) (v := .int .i64 n) ?ut7h (by kernel_rfl) (by kernel_rfl) (by kernel_rfl) ?ut7q (Or.inl ⟨?ut7w, ?ut7y⟩) trivial ?ut7r
          case ut7h => rw [List.getElem?_toArray]; rfl
          case ut7q => exact fun _ _ _ h => h
          case ut7w => rfl
          case ut7y =>
            intro w hSw
            go_simp
          simp only [Act.put, List.setIfInBounds_toArray, List.set_cons_zero, List.set_cons_succ]
          refine wpAnyH_ready (rs := [1, 6, 9]) (by kernel_rfl) (by simp) ?_
          refine AllReadyH.cons (o := ?ub8o) ?ub8h (fun K hK => ?ub8s) (AllReadyH.cons (o := ?ub9o) ?ub9h (fun K hK => ?ub9s) (AllReadyH.cons (o := ?ub10o) ?ub10h (fun K hK => ?ub10s) AllReadyH.nil))
          case ub8h => rw [List.getElem?_toArray]; rfl
          case ub9h => rw [List.getElem?_toArray]; rfl
          case ub10h => rw [List.getElem?_toArray]; rfl
          case ub8s =>
            have hld : U0.cell? ⟨t, 3, none⟩ = some vf := by simp [World.cell?, hF.box, tabC]
            go_simp
            refine hK.out _ _ trivial (fun hHeld => ?_)
            clear hK K hHeld
            clear hld
            try simp only [Act.put, List.setIfInBounds_toArray, List.set_cons_zero, List.set_cons_succ]
            refine wpAnyH_ready (rs := [6, 9]) (by kernel_rfl) (by simp) ?_
            refine AllReadyH.cons (o := ?ub11o) ?ub11h (fun K hK => ?ub11s) (AllReadyH.cons (o := ?ub12o) ?ub12h (fun K hK => ?ub12s) AllReadyH.nil)
            case ub11h => rw [List.getElem?_toArray]; rfl
            case ub12h => rw [List.getElem?_toArray]; rfl
            case ub11s =>
              go_simp
              have hstr := heap_alloc_new' U0 (.cells #[.string ⟨#[120]⟩] 9)
              have hGn : wb.heap.size ≤ U0.heap.size := hF.turn.size
              have hGg : U0.heap.size ≠ w.heap.size := by have := hF.live.lt; omega
              have hGx : ∀ j, j < k → xbv j ≠ U0.heap.size := fun j hj => by have := blk_lt (hF.cols j hj); omega
              replace hF := hF.call ((Below.refl U0.heap.size U0).alloc (Nat.le_refl _) (.cells #[.string ⟨#[120]⟩] 9))
              generalize U0.heap.size = G at hstr hGn hGg hGx ⊢
              generalize World.alloc U0 (.cells #[.string ⟨#[120]⟩] 9) = U1 at hF hstr ⊢
              refine hK.out _ _ trivial (fun hHeld => ?_)
              clear hK K hHeld
              try simp only [Act.put, List.setIfInBounds_toArray, List.set_cons_zero, List.set_cons_succ]
              refine wpAnyH_ready (rs := [9]) (by kernel_rfl) (by simp) ?_
              refine AllReadyH.cons (o := ?ub13o) ?ub13h (fun K hK => ?ub13s) AllReadyH.nil
              case ub13h => rw [List.getElem?_toArray]; rfl
              go_simp
              refine (Tryz.nextL hF.live (by omega) n (by omega) (by omega)).mono ?_
              rintro e U2 ⟨r0, hr1, hr2, rfl, hL, hT⟩
              obtain ⟨r, rfl⟩ : ∃ m : Nat, r0 = m := ⟨r0.toNat, by omega⟩
              have hr3 : r < n := by omega
              obtain ⟨nr, hnr1, hnr2⟩ : ∃ nr, Utf8.encode (97 + r) = nr ∧ Hid (nr = nameL r) := ⟨_, rfl, Lib.hid (enc_name (by omega))⟩
              go_wp2_with fail
              refine hK.out _ _ trivial (fun hHeld => ?_)
              clear hK K hHeld
              replace hF := hF.next hT hL
              replace hstr := hT.block hstr hGg
              clear hL hT
              try simp only [Act.put, List.setIfInBounds_toArray, List.set_cons_zero, List.set_cons_succ]
              refine wpAnyH_take (i := 10) (oi := ?ut14o) (v := .int .i64 (97 + r)) ?ut14h (by kernel_rfl) (by kernel_rfl) (by kernel_rfl) ?ut14q (Or.inl ⟨?ut14w, ?ut14y⟩) trivial ?ut14r
              case ut14h => rw [List.getElem?_toArray]; rfl
              case ut14q => exact fun _ _ _ h => h
              case ut14w => rfl
              case ut14y =>
                intro w hSw
                go_simp
                rw [IntKind.wrap_i64]; omega
              simp only [Act.put, List.setIfInBounds_toArray, List.set_cons_zero, List.set_cons_succ]
              refine wpAnyH_take (i := 11) (oi := ?ut15o) (v := .int .i32 (97 + r)) ?ut15h (by kernel_rfl) (by kernel_rfl) (by kernel_rfl) ?ut15q (Or.inl ⟨?ut15w, ?ut15y⟩) trivial ?ut15r
              case ut15h => rw [List.getElem?_toArray]; rfl
              case ut15q => exact fun _ _ _ h => h
              case ut15w => rfl
              case ut15y =>
                intro w hSw
                go_simp
                rw [IntKind.wrap_i32]; omega
              simp only [Act.put, List.setIfInBounds_toArray, List.set_cons_zero, List.set_cons_succ]
              refine wpAnyH_take (i := 12) (oi := ?ut16o) (v := .string nr) ?ut16h (by kernel_rfl) (by kernel_rfl) (by kernel_rfl) ?ut16q (Or.inl ⟨?ut16w, ?ut16y⟩) trivial ?ut16r
              case ut16h => rw [List.getElem?_toArray]; rfl
              case ut16q => exact fun _ _ _ h => h
              case ut16w => rfl
              case ut16y =>
                intro w hSw
                go_simp
              simp only [Act.put, List.setIfInBounds_toArray, List.set_cons_zero, List.set_cons_succ]
              refine wpAnyH_take (i := 13) (oi := ?ut17o) (v := .agg #[.string nk, .slice (some ⟨G, 0, none⟩) 1 1, .string nr]) ?ut17h (by kernel_rfl) (by kernel_rfl) (by kernel_rfl) ?ut17q (Or.inl ⟨?ut17w, ?ut17y⟩) trivial ?ut17r
              case ut17h => rw [List.getElem?_toArray]; rfl
              case ut17q => exact fun _ _ _ h => h
              case ut17w => rfl
              case ut17y =>
                intro w hSw
                go_simp
              simp only [Act.put, List.setIfInBounds_toArray, List.set_cons_zero, List.set_cons_succ]
              refine wpAnyH_ready (rs := [14]) (by kernel_rfl) (by simp) ?_
              refine AllReadyH.cons (o := ?ub18o) ?ub18h (fun K hK => ?ub18s) AllReadyH.nil
              case ub18h => rw [List.getElem?_toArray]; rfl
              go_simp
              have hq := heap_alloc_new' U2 (.cells #[.string nk, .slice (some ⟨G, 0, none⟩) 1 1, .string nr] 42)
              have hbq := (Below.refl U2.heap.size U2).alloc (Nat.le_refl _) (.cells #[.string nk, .slice (some ⟨G, 0, none⟩) 1 1, .string nr] 42)
              replace hF := hF.call hbq
              replace hstr := heap_kept hbq hstr
              clear hbq
              generalize U2.heap.size = Q at hq ⊢
              generalize World.alloc U2 (.cells #[.string nk, .slice (some ⟨G, 0, none⟩) 1 1, .string nr] 42) = U3 at hF hstr hq ⊢
              refine hK.out _ _ trivial (fun hHeld => ?_)
              clear hK K hHeld
              try simp only [Act.put, List.setIfInBounds_toArray, List.set_cons_zero, List.set_cons_succ]
              refine wpAnyH_ready (rs := [15]) (by kernel_rfl) (by simp) ?_
              refine AllReadyH.cons (o := ?ub19o) ?ub19h (fun K hK => ?ub19s) AllReadyH.nil
              case ub19h => rw [List.getElem?_toArray]; rfl
              refine Eq.mpr (if_pos ?ux200) ?_
              case ux200 => rfl
              refine hF.append (.tmp 38) (.tmp 51) ?ux201 hstr hGn hGx hnk.out hnr2.out hq (by omega) ?ux202 ?ux203 ?ux204 ?ux205
              case ux201 => rfl
              case ux202 => omega
              case ux203 => rfl
              case ux204 => rfl
              intro v' U' ⟨ad', cp', hv'⟩ hbx hF'
              subst hv'
              refine hK.out _ _ trivial (fun hHeld => ?_)
              clear hK K hHeld
              clear hF
              try simp only [Act.put, List.setIfInBounds_toArray, List.set_cons_zero, List.set_cons_succ]
              refine wpAnyH_take (i := 16) (oi := ?ut21o) (v := .pointer (some ⟨t, 3, none⟩)) ?ut21h (by kernel_rfl) (by kernel_rfl) (by kernel_rfl) ?ut21q (Or.inl ⟨?ut21w, ?ut21y⟩) trivial ?ut21r
              case ut21h => rw [List.getElem?_toArray]; rfl
              case ut21q => exact fun _ _ _ h => h
              case ut21w => rfl
              case ut21y =>
                intro w hSw
                go_simp
              simp only [Act.put, List.setIfInBounds_toArray, List.set_cons_zero, List.set_cons_succ]
              refine wpAnyH_ready (rs := [17]) (by kernel_rfl) (by simp) ?_
              refine AllReadyH.cons (o := ?ub22o) ?ub22h (fun K hK => ?ub22s) AllReadyH.nil
              case ub22h => rw [List.getElem?_toArray]; rfl
              have hs1 : U'.cell? ⟨t, 3, none⟩ = some vf := by simp [World.cell?, hbx, tabC]
              have hs2 : U'.frozen? ⟨t, 3, none⟩ = false := by simp [World.frozen?, hbx]
              go_simp
              refine hK.out _ _ trivial (fun hHeld => ?_)
              clear hK K hHeld
              clear hs1 hs2
              try simp only [Act.put, List.setIfInBounds_toArray, List.set_cons_zero, List.set_cons_succ]
              refine wpAnyH_done (by kernel_rfl) ?_ _
              go_wp2_with fail
              go_roundw
              case rel => exact ⟨k + 1, _, _, _, _, by go_num, by omega, by omega, hF'⟩
              case measure => simp [intOf]; omega
            case ub12s =>
              go_simp
              refine (Tryz.nextL hF.live (by omega) n (by omega) (by omega)).mono ?_
              rintro e U4 ⟨r0, hr1, hr2, rfl, hL, hT⟩
              obtain ⟨r, rfl⟩ : ∃ m : Nat, r0 = m := ⟨r0.toNat, by omega⟩
              have hr3 : r < n := by omega
              obtain ⟨nr, hnr1, hnr2⟩ : ∃ nr, Utf8.encode (97 + r) = nr ∧ Hid (nr = nameL r) := ⟨_, rfl, Lib.hid (enc_name (by omega))⟩
              go_wp2_with fail
              refine hK.out _ _ trivial (fun hHeld => ?_)
              clear hK K hHeld
              replace hF := hF.next hT hL
              clear hL hT
              try simp only [Act.put, List.setIfInBounds_toArray, List.set_cons_zero, List.set_cons_succ]
              refine wpAnyH_take (i := 10) (oi := ?ut23o) (v := .int .i64 (97 + r)) ?ut23h (by kernel_rfl) (by kernel_rfl) (by kernel_rfl) ?ut23q (Or.inl ⟨?ut23w, ?ut23y⟩) trivial ?ut23r
              case ut23h => rw [List.getElem?_toArray]; rfl
              case ut23q => exact fun _ _ _ h => h
              case ut23w => rfl
              case ut23y =>
                intro w hSw
                go_simp
                rw [IntKind.wrap_i64]; omega
              simp only [Act.put, List.setIfInBounds_toArray, List.set_cons_zero, List.set_cons_succ]
              refine wpAnyH_take (i := 11) (oi := ?ut24o) (v := .int .i32 (97 + r)) ?ut24h (by kernel_rfl) (by kernel_rfl) (by kernel_rfl) ?ut24q (Or.inl ⟨?ut24w, ?ut24y⟩) trivial ?ut24r
              case ut24h => rw [List.getElem?_toArray]; rfl
              case ut24q => exact fun _ _ _ h => h
              case ut24w => rfl
              case ut24y =>
                intro w hSw
                go_simp
                rw [IntKind.wrap_i32]; omega
              simp only [Act.put, List.setIfInBounds_toArray, List.set_cons_zero, List.set_cons_succ]
              refine wpAnyH_take (i := 12) (oi := ?ut25o) (v := .string nr) ?ut25h (by kernel_rfl) (by kernel_rfl) (by kernel_rfl) ?ut25q (Or.inl ⟨?ut25w, ?ut25y⟩) trivial ?ut25r
              case ut25h => rw [List.getElem?_toArray]; rfl
              case ut25q => exact fun _ _ _ h => h
              case ut25w => rfl
              case ut25y =>
                intro w hSw
                go_simp
              simp only [Act.put, List.setIfInBounds_toArray, List.set_cons_zero, List.set_cons_succ]
              refine wpAnyH_ready (rs := [6]) (by kernel_rfl) (by simp) ?_
              refine AllReadyH.cons (o := ?ub26o) ?ub26h (fun K hK => ?ub26s) AllReadyH.nil
              case ub26h => rw [List.getElem?_toArray]; rfl
              go_simp
              have hstr := heap_alloc_new' U4 (.cells #[.string ⟨#[120]⟩] 9)
              have hGn : wb.heap.size ≤ U4.heap.size := hF.turn.size
              have hGg : U4.heap.size ≠ w.heap.size := by have := hF.live.lt; omega
              have hGx : ∀ j, j < k → xbv j ≠ U4.heap.size := fun j hj => by have := blk_lt (hF.cols j hj); omega
              replace hF := hF.call ((Below.refl U4.heap.size U4).alloc (Nat.le_refl _) (.cells #[.string ⟨#[120]⟩] 9))
              generalize U4.heap.size = G at hstr hGn hGg hGx ⊢
              generalize World.alloc U4 (.cells #[.string ⟨#[120]⟩] 9) = U5 at hF hstr ⊢
              refine hK.out _ _ trivial (fun hHeld => ?_)
              clear hK K hHeld
              try simp only [Act.put, List.setIfInBounds_toArray, List.set_cons_zero, List.set_cons_succ]
              refine wpAnyH_take (i := 13) (oi := ?ut27o) (v := .agg #[.string nk, .slice (some ⟨G, 0, none⟩) 1 1, .string nr]) ?ut27h (by kernel_rfl) (by kernel_rfl) (by kernel_rfl) ?ut27q (Or.inl ⟨?ut27w, ?ut27y⟩) trivial ?ut27r
              case ut27h => rw [List.getElem?_toArray]; rfl
              case ut27q => exact fun _ _ _ h => h
              case ut27w => rfl
              case ut27y =>
                intro w hSw
                go_simp
              simp only [Act.put, List.setIfInBounds_toArray, List.set_cons_zero, List.set_cons_succ]
              refine wpAnyH_ready (rs := [14]) (by kernel_rfl) (by simp) ?_
              refine AllReadyH.cons (o := ?ub28o) ?ub28h (fun K hK => ?ub28s) AllReadyH.nil
              case ub28h => rw [List.getElem?_toArray]; rfl
              go_simp
              have hq := heap_alloc_new' U5 (.cells #[.string nk, .slice (some ⟨G, 0, none⟩) 1 1, .string nr] 42)
              have hbq := (Below.refl U5.heap.size U5).alloc (Nat.le_refl _) (.cells #[.string nk, .slice (some ⟨G, 0, none⟩) 1 1, .string nr] 42)
              replace hF := hF.call hbq
              replace hstr := heap_kept hbq hstr
              clear hbq
              generalize U5.heap.size = Q at hq ⊢
              generalize World.alloc U5 (.cells #[.string nk, .slice (some ⟨G, 0, none⟩) 1 1, .string nr] 42) = U6 at hF hstr hq ⊢
              refine hK.out _ _ trivial (fun hHeld => ?_)
              clear hK K hHeld
              try simp only [Act.put, List.setIfInBounds_toArray, List.set_cons_zero, List.set_cons_succ]
              refine wpAnyH_ready (rs := [15]) (by kernel_rfl) (by simp) ?_
              refine AllReadyH.cons (o := ?ub29o) ?ub29h (fun K hK => ?ub29s) AllReadyH.nil
              case ub29h => rw [List.getElem?_toArray]; rfl
              refine Eq.mpr (if_pos ?ux300) ?_
              case ux300 => rfl
              refine hF.append (.tmp 38) (.tmp 51) ?ux301 hstr hGn hGx hnk.out hnr2.out hq (by omega) ?ux302 ?ux303 ?ux304 ?ux305
              case ux301 => rfl
              case ux302 => omega
              case ux303 => rfl
              case ux304 => rfl
              intro v' U' ⟨ad', cp', hv'⟩ hbx hF'
              subst hv'
              refine hK.out _ _ trivial (fun hHeld => ?_)
              clear hK K hHeld
              clear hF
              try simp only [Act.put, List.setIfInBounds_toArray, List.set_cons_zero, List.set_cons_succ]
              refine wpAnyH_take (i := 16) (oi := ?ut31o) (v := .pointer (some ⟨t, 3, none⟩)) ?ut31h (by kernel_rfl) (by kernel_rfl) (by kernel_rfl) ?ut31q (Or.inl ⟨?ut31w, ?ut31y⟩) trivial ?ut31r
              case ut31h => rw [List.getElem?_toArray]; rfl
              case ut31q => exact fun _ _ _ h => h
              case ut31w => rfl
              case ut31y =>
                intro w hSw
                go_simp
              simp only [Act.put, List.setIfInBounds_toArray, List.set_cons_zero, List.set_cons_succ]
              refine wpAnyH_ready (rs := [17]) (by kernel_rfl) (by simp) ?_
              refine AllReadyH.cons (o := ?ub32o) ?ub32h (fun K hK => ?ub32s) AllReadyH.nil
              case ub32h => rw [List.getElem?_toArray]; rfl
              have hs1 : U'.cell? ⟨t, 3, none⟩ = some vf := by simp [World.cell?, hbx, tabC]
              have hs2 : U'.frozen? ⟨t, 3, none⟩ = false := by simp [World.frozen?, hbx]
              go_simp
              refine hK.out _ _ trivial (fun hHeld => ?_)
              clear hK K hHeld
              clear hs1 hs2
              try simp only [Act.put, List.setIfInBounds_toArray, List.set_cons_zero, List.set_cons_succ]
              refine wpAnyH_done (by kernel_rfl) ?_ _
              go_wp2_with fail
              go_roundw
              case rel => exact ⟨k + 1, _, _, _, _, by go_num, by omega, by omega, hF'⟩
              case measure => simp [intOf]; omega
          case ub9s =>
            go_simp
            have hstr := heap_alloc_new' U0 (.cells #[.string ⟨#[120]⟩] 9)
            have hGn : wb.heap.size ≤ U0.heap.size := hF.turn.size
            have hGg : U0.heap.size ≠ w.heap.size := by have := hF.live.lt; omega
            have hGx : ∀ j, j < k → xbv j ≠ U0.heap.size := fun j hj => by have := blk_lt (hF.cols j hj); omega
            replace hF := hF.call ((Below.refl U0.heap.size U0).alloc (Nat.le_refl _) (.cells #[.string ⟨#[120]⟩] 9))
            generalize U0.heap.size = G at hstr hGn hGg hGx ⊢
            generalize World.alloc U0 (.cells #[.string ⟨#[120]⟩] 9) = U7 at hF hstr ⊢
            refine hK.out _ _ trivial (fun hHeld => ?_)
            clear hK K hHeld
            try simp only [Act.put, List.setIfInBounds_toArray, List.set_cons_zero, List.set_cons_succ]
            refine wpAnyH_ready (rs := [1, 9]) (by kernel_rfl) (by simp) ?_
            refine AllReadyH.cons (o := ?ub33o) ?ub33h (fun K hK => ?ub33s) (AllReadyH.cons (o := ?ub34o) ?ub34h (fun K hK => ?ub34s) AllReadyH.nil)
            case ub33h => rw [List.getElem?_toArray]; rfl
            case ub34h => rw [List.getElem?_toArray]; rfl
            case ub33s =>
              have hld : U7.cell? ⟨t, 3, none⟩ = some vf := by simp [World.cell?, hF.box, tabC]
              go_simp
              refine hK.out _ _ trivial (fun hHeld => ?_)
              clear hK K hHeld
              clear hld
              try simp only [Act.put, List.setIfInBounds_toArray, List.set_cons_zero, List.set_cons_succ]
              refine wpAnyH_ready (rs := [9]) (by kernel_rfl) (by simp) ?_
              refine AllReadyH.cons (o := ?ub35o) ?ub35h (fun K hK => ?ub35s) AllReadyH.nil
              case ub35h => rw [List.getElem?_toArray]; rfl
              go_simp
              refine (Tryz.nextL hF.live (by omega) n (by omega) (by omega)).mono ?_
              rintro e U8 ⟨r0, hr1, hr2, rfl, hL, hT⟩
              obtain ⟨r, rfl⟩ : ∃ m : Nat, r0 = m := ⟨r0.toNat, by omega⟩
              have hr3 : r < n := by omega
              obtain ⟨nr, hnr1, hnr2⟩ : ∃ nr, Utf8.encode (97 + r) = nr ∧ Hid (nr = nameL r) := ⟨_, rfl, Lib.hid (enc_name (by omega))⟩
              go_wp2_with fail
              refine hK.out _ _ trivial (fun hHeld => ?_)
              clear hK K hHeld
              replace hF := hF.next hT hL
              replace hstr := hT.block hstr hGg
              clear hL hT
              try simp only [Act.put, List.setIfInBounds_toArray, List.set_cons_zero, List.set_cons_succ]
              refine wpAnyH_take (i := 10) (oi := ?ut36o) (v := .int .i64 (97 + r)) ?ut36h (by kernel_rfl) (by kernel_rfl) (by kernel_rfl) ?ut36q (Or.inl ⟨?ut36w, ?ut36y⟩) trivial ?ut36r
              case ut36h => rw [List.getElem?_toArray]; rfl
              case ut36q => exact fun _ _ _ h => h
              case ut36w => rfl
              case ut36y =>
                intro w hSw
                go_simp
                rw [IntKind.wrap_i64]; omega
              simp only [Act.put, List.setIfInBounds_toArray, List.set_cons_zero, List.set_cons_succ]
              refine wpAnyH_take (i := 11) (oi := ?ut37o) (v := .int .i32 (97 + r)) ?ut37h (by kernel_rfl) (by kernel_rfl) (by kernel_rfl) ?ut37q (Or.inl ⟨?ut37w, ?ut37y⟩) trivial ?ut37r
              case ut37h => rw [List.getElem?_toArray]; rfl
              case ut37q => exact fun _ _ _ h => h
              case ut37w => rfl
              case ut37y =>
                intro w hSw
                go_simp
                rw [IntKind.wrap_i32]; omega
              simp only [Act.put, List.setIfInBounds_toArray, List.set_cons_zero, List.set_cons_succ]
              refine wpAnyH_take (i := 12) (oi := ?ut38o) (v := .string nr) ?ut38h (by kernel_rfl) (by kernel_rfl) (by kernel_rfl) ?ut38q (Or.inl ⟨?ut38w, ?ut38y⟩) trivial ?ut38r
              case ut38h => rw [List.getElem?_toArray]; rfl
              case ut38q => exact fun _ _ _ h => h
              case ut38w => rfl
              case ut38y =>
                intro w hSw
                go_simp
              simp only [Act.put, List.setIfInBounds_toArray, List.set_cons_zero, List.set_cons_succ]
              refine wpAnyH_take (i := 13) (oi := ?ut39o) (v := .agg #[.string nk, .slice (some ⟨G, 0, none⟩) 1 1, .string nr]) ?ut39h (by kernel_rfl) (by kernel_rfl) (by kernel_rfl) ?ut39q (Or.inl ⟨?ut39w, ?ut39y⟩) trivial ?ut39r
              case ut39h => rw [List.getElem?_toArray]; rfl
              case ut39q => exact fun _ _ _ h => h
              case ut39w => rfl
              case ut39y =>
                intro w hSw
                go_simp
              simp only [Act.put, List.setIfInBounds_toArray, List.set_cons_zero, List.set_cons_succ]
              refine wpAnyH_ready (rs := [14]) (by kernel_rfl) (by simp) ?_
              refine AllReadyH.cons (o := ?ub40o) ?ub40h (fun K hK => ?ub40s) AllReadyH.nil
              case ub40h => rw [List.getElem?_toArray]; rfl
              go_simp
              have hq := heap_alloc_new' U8 (.cells #[.string nk, .slice (some ⟨G, 0, none⟩) 1 1, .string nr] 42)
              have hbq := (Below.refl U8.heap.size U8).alloc (Nat.le_refl _) (.cells #[.string nk, .slice (some ⟨G, 0, none⟩) 1 1, .string nr] 42)
              replace hF := hF.call hbq
              replace hstr := heap_kept hbq hstr
              clear hbq
              generalize U8.heap.size = Q at hq ⊢
              generalize World.alloc U8 (.cells #[.string nk, .slice (some ⟨G, 0, none⟩) 1 1, .string nr] 42) = U9 at hF hstr hq ⊢
              refine hK.out _ _ trivial (fun hHeld => ?_)
              clear hK K hHeld
              try simp only [Act.put, List.setIfInBounds_toArray, List.set_cons_zero, List.set_cons_succ]
              refine wpAnyH_ready (rs := [15]) (by kernel_rfl) (by simp) ?_
              refine AllReadyH.cons (o := ?ub41o) ?ub41h (fun K hK => ?ub41s) AllReadyH.nil
              case ub41h => rw [List.getElem?_toArray]; rfl
              refine Eq.mpr (if_pos ?ux420) ?_
              case ux420 => rfl
              refine hF.append (.tmp 38) (.tmp 51) ?ux421 hstr hGn hGx hnk.out hnr2.out hq (by omega) ?ux422 ?ux423 ?ux424 ?ux425
              case ux421 => rfl
              case ux422 => omega
              case ux423 => rfl
              case ux424 => rfl
              intro v' U' ⟨ad', cp', hv'⟩ hbx hF'
              subst hv'
              refine hK.out _ _ trivial (fun hHeld => ?_)
              clear hK K hHeld
              clear hF
              try simp only [Act.put, List.setIfInBounds_toArray, List.set_cons_zero, List.set_cons_succ]
              refine wpAnyH_take (i := 16) (oi := ?ut43o) (v := .pointer (some ⟨t, 3, none⟩)) ?ut43h (by kernel_rfl) (by kernel_rfl) (by kernel_rfl) ?ut43q (Or.inl ⟨?ut43w, ?ut43y⟩) trivial ?ut43r
              case ut43h => rw [List.getElem?_toArray]; rfl
              case ut43q => exact fun _ _ _ h => h
              case ut43w => rfl
              case ut43y =>
                intro w hSw
                go_simp
              simp only [Act.put, List.setIfInBounds_toArray, List.set_cons_zero, List.set_cons_succ]
              refine wpAnyH_ready (rs := [17]) (by kernel_rfl) (by simp) ?_
              refine AllReadyH.cons (o := ?ub44o) ?ub44h (fun K hK => ?ub44s) AllReadyH.nil
              case ub44h => rw [List.getElem?_toArray]; rfl
              have hs1 : U'.cell? ⟨t, 3, none⟩ = some vf := by simp [World.cell?, hbx, tabC]
              have hs2 : U'.frozen? ⟨t, 3, none⟩ = false := by simp [World.frozen?, hbx]
              go_simp
              refine hK.out _ _ trivial (fun hHeld => ?_)
              clear hK K hHeld
              clear hs1 hs2
              try simp only [Act.put, List.setIfInBounds_toArray, List.set_cons_zero, List.set_cons_succ]
              refine wpAnyH_done (by kernel_rfl) ?_ _
              go_wp2_with fail
              go_roundw
              case rel => exact ⟨k + 1, _, _, _, _, by go_num, by omega, by omega, hF'⟩
              case measure => simp [intOf]; omega
            case ub34s =>
              go_simp
              refine (Tryz.nextL hF.live (by omega) n (by omega) (by omega)).mono ?_
              rintro e U10 ⟨r0, hr1, hr2, rfl, hL, hT⟩
              obtain ⟨r, rfl⟩ : ∃ m : Nat, r0 = m := ⟨r0.toNat, by omega⟩
              have hr3 : r < n := by omega
              obtain ⟨nr, hnr1, hnr2⟩ : ∃ nr, Utf8.encode (97 + r) = nr ∧ Hid (nr = nameL r) := ⟨_, rfl, Lib.hid (enc_name (by omega))⟩
              go_wp2_with fail
              refine hK.out _ _ trivial (fun hHeld => ?_)
              clear hK K hHeld
              replace hF := hF.next hT hL
              replace hstr := hT.block hstr hGg
              clear hL hT
              try simp only [Act.put, List.setIfInBounds_toArray, List.set_cons_zero, List.set_cons_succ]
              refine wpAnyH_take (i := 10) (oi := ?ut45o) (v := .int .i64 (97 + r)) ?ut45h (by kernel_rfl) (by kernel_rfl) (by kernel_rfl) ?ut45q (Or.inl ⟨?ut45w, ?ut45y⟩) trivial ?ut45r
              case ut45h => rw [List.getElem?_toArray]; rfl
              case ut45q => exact fun _ _ _ h => h
              case ut45w => rfl
              case ut45y =>
                intro w hSw
                go_simp
                rw [IntKind.wrap_i64]; omega
              simp only [Act.put, List.setIfInBounds_toArray, List.set_cons_zero, List.set_cons_succ]
              refine wpAnyH_take (i := 11) (oi := ?ut46o) (v := .int .i32 (97 + r)) ?ut46h (by kernel_rfl) (by kernel_rfl) (by kernel_rfl) ?ut46q (Or.inl ⟨?ut46w, ?ut46y⟩) trivial ?ut46r
              case ut46h => rw [List.getElem?_toArray]; rfl
              case ut46q => exact fun _ _ _ h => h
              case ut46w => rfl
              case ut46y =>
                intro w hSw
                go_simp
                rw [IntKind.wrap_i32]; omega
              simp only [Act.put, List.setIfInBounds_toArray, List.set_cons_zero, List.set_cons_succ]
              refine wpAnyH_take (i := 12) (oi := ?ut47o) (v := .string nr) ?ut47h (by kernel_rfl) (by kernel_rfl) (by kernel_rfl) ?ut47q (Or.inl ⟨?ut47w, ?ut47y⟩) trivial ?ut47r
              case ut47h => rw [List.getElem?_toArray]; rfl
              case ut47q => exact fun _ _ _ h => h
              case ut47w => rfl
              case ut47y =>
                intro w hSw
                go_simp
              simp only [Act.put, List.setIfInBounds_toArray, List.set_cons_zero, List.set_cons_succ]
              refine wpAnyH_take (i := 13) (oi := ?ut48o) (v := .agg #[.string nk, .slice (some ⟨G, 0, none⟩) 1 1, .string nr]) ?ut48h (by kernel_rfl) (by kernel_rfl) (by kernel_rfl) ?ut48q (Or.inl ⟨?ut48w, ?ut48y⟩) trivial ?ut48r
              case ut48h => rw [List.getElem?_toArray]; rfl
              case ut48q => exact fun _ _ _ h => h
              case ut48w => rfl
              case ut48y =>
                intro w hSw
                go_simp
              simp only [Act.put, List.setIfInBounds_toArray, List.set_cons_zero, List.set_cons_succ]
              refine wpAnyH_ready (rs := [1, 14]) (by kernel_rfl) (by simp) ?_
              refine AllReadyH.cons (o := ?ub49o) ?ub49h (fun K hK => ?ub49s) (AllReadyH.cons (o := ?ub50o) ?ub50h (fun K hK => ?ub50s) AllReadyH.nil)
              case ub49h => rw [List.getElem?_toArray]; rfl
              case ub50h => rw [List.getElem?_toArray]; rfl
              case ub49s =>
                have hld : U10.cell? ⟨t, 3, none⟩ = some vf := by simp [World.cell?, hF.box, tabC]
                go_simp
                refine hK.out _ _ trivial (fun hHeld => ?_)
                clear hK K hHeld
                clear hld
                try simp only [Act.put, List.setIfInBounds_toArray, List.set_cons_zero, List.set_cons_succ]
                refine wpAnyH_ready (rs := [14]) (by kernel_rfl) (by simp) ?_
                refine AllReadyH.cons (o := ?ub51o) ?ub51h (fun K hK => ?ub51s) AllReadyH.nil
                case ub51h => rw [List.getElem?_toArray]; rfl
                go_simp
                have hq := heap_alloc_new' U10 (.cells #[.string nk, .slice (some ⟨G, 0, none⟩) 1 1, .string nr] 42)
                have hbq := (Below.refl U10.heap.size U10).alloc (Nat.le_refl _) (.cells #[.string nk, .slice (some ⟨G, 0, none⟩) 1 1, .string nr] 42)
                replace hF := hF.call hbq
                replace hstr := heap_kept hbq hstr
                clear hbq
                generalize U10.heap.size = Q at hq ⊢
                generalize World.alloc U10 (.cells #[.string nk, .slice (some ⟨G, 0, none⟩) 1 1, .string nr] 42) = U11 at hF hstr hq ⊢
                refine hK.out _ _ trivial (fun hHeld => ?_)
                clear hK K hHeld
                try simp only [Act.put, List.setIfInBounds_toArray, List.set_cons_zero, List.set_cons_succ]
                refine wpAnyH_ready (rs := [15]) (by kernel_rfl) (by simp) ?_
                refine AllReadyH.cons (o := ?ub52o) ?ub52h (fun K hK => ?ub52s) AllReadyH.nil
                case ub52h => rw [List.getElem?_toArray]; rfl
                refine Eq.mpr (if_pos ?ux530) ?_
                case ux530 => rfl
                refine hF.append (.tmp 38) (.tmp 51) ?ux531 hstr hGn hGx hnk.out hnr2.out hq (by omega) ?ux532 ?ux533 ?ux534 ?ux535
                case ux531 => rfl
                case ux532 => omega
                case ux533 => rfl
                case ux534 => rfl
                intro v' U' ⟨ad', cp', hv'⟩ hbx hF'
                subst hv'
                refine hK.out _ _ trivial (fun hHeld => ?_)
                clear hK K hHeld
                clear hF
                try simp only [Act.put, List.setIfInBounds_toArray, List.set_cons_zero, List.set_cons_succ]
                refine wpAnyH_take (i := 16) (oi := ?ut54o) (v := .pointer (some ⟨t, 3, none⟩)) ?ut54h (by kernel_rfl) (by kernel_rfl) (by kernel_rfl) ?ut54q (Or.inl ⟨?ut54w, ?ut54y⟩) trivial ?ut54r
                case ut54h => rw [List.getElem?_toArray]; rfl
                case ut54q => exact fun _ _ _ h => h
                case ut54w => rfl
                case ut54y =>
                  intro w hSw
                  go_simp
                simp only [Act.put, List.setIfInBounds_toArray, List.set_cons_zero, List.set_cons_succ]
                refine wpAnyH_ready (rs := [17]) (by kernel_rfl) (by simp) ?_
                refine AllReadyH.cons (o := ?ub55o) ?ub55h (fun K hK => ?ub55s) AllReadyH.nil
                case ub55h => rw [List.getElem?_toArray]; rfl
                have hs1 : U'.cell? ⟨t, 3, none⟩ = some vf := by simp [World.cell?, hbx, tabC]
                have hs2 : U'.frozen? ⟨t, 3, none⟩ = false := by simp [World.frozen?, hbx]
                go_simp
                refine hK.out _ _ trivial (fun hHeld => ?_)
                clear hK K hHeld
                clear hs1 hs2
                try simp only [Act.put, List.setIfInBounds_toArray, List.set_cons_zero, List.set_cons_succ]
                refine wpAnyH_done (by kernel_rfl) ?_ _
                go_wp2_with fail
                go_roundw
                case rel => exact ⟨k + 1, _, _, _, _, by go_num, by omega, by omega, hF'⟩
                case measure => simp [intOf]; omega
              case ub50s =>
                go_simp
                have hq := heap_alloc_new' U10 (.cells #[.string nk, .slice (some ⟨G, 0, none⟩) 1 1, .string nr] 42)
                have hbq := (Below.refl U10.heap.size U10).alloc (Nat.le_refl _) (.cells #[.string nk, .slice (some ⟨G, 0, none⟩) 1 1, .string nr] 42)
                replace hF := hF.call hbq
                replace hstr := heap_kept hbq hstr
                clear hbq
                generalize U10.heap.size = Q at hq ⊢
                generalize World.alloc U10 (.cells #[.string nk, .slice (some ⟨G, 0, none⟩) 1 1, .string nr] 42) = U12 at hF hstr hq ⊢
                refine hK.out _ _ trivial (fun hHeld => ?_)
                clear hK K hHeld
                try simp only [Act.put, List.setIfInBounds_toArray, List.set_cons_zero, List.set_cons_succ]
                refine wpAnyH_ready (rs := [1]) (by kernel_rfl) (by simp) ?_
                refine AllReadyH.cons (o := ?ub56o) ?ub56h (fun K hK => ?ub56s) AllReadyH.nil
                case ub56h => rw [List.getElem?_toArray]; rfl
                have hld : U12.cell? ⟨t, 3, none⟩ = some vf := by simp [World.cell?, hF.box, tabC]
                go_simp
                refine hK.out _ _ trivial (fun hHeld => ?_)
                clear hK K hHeld
                clear hld
                try simp only [Act.put, List.setIfInBounds_toArray, List.set_cons_zero, List.set_cons_succ]
                refine wpAnyH_ready (rs := [15]) (by kernel_rfl) (by simp) ?_
                refine AllReadyH.cons (o := ?ub57o) ?ub57h (fun K hK => ?ub57s) AllReadyH.nil
                case ub57h => rw [List.getElem?_toArray]; rfl
                refine Eq.mpr (if_pos ?ux580) ?_
                case ux580 => rfl
                refine hF.append (.tmp 38) (.tmp 51) ?ux581 hstr hGn hGx hnk.out hnr2.out hq (by omega) ?ux582 ?ux583 ?ux584 ?ux585
                case ux581 => rfl
                case ux582 => omega
                case ux583 => rfl
                case ux584 => rfl
                intro v' U' ⟨ad', cp', hv'⟩ hbx hF'
                subst hv'
                refine hK.out _ _ trivial (fun hHeld => ?_)
                clear hK K hHeld
                clear hF
                try simp only [Act.put, List.setIfInBounds_toArray, List.set_cons_zero, List.set_cons_succ]
                refine wpAnyH_take (i := 16) (oi := ?ut59o) (v := .pointer (some ⟨t, 3, none⟩)) ?ut59h (by kernel_rfl) (by kernel_rfl) (by kernel_rfl) ?ut59q (Or.inl ⟨?ut59w, ?ut59y⟩) trivial ?ut59r
                case ut59h => rw [List.getElem?_toArray]; rfl
                case ut59q => exact fun _ _ _ h => h
                case ut59w => rfl
                case ut59y =>
                  intro w hSw
                  go_simp
                simp only [Act.put, List.setIfInBounds_toArray, List.set_cons_zero, List.set_cons_succ]
                refine wpAnyH_ready (rs := [17]) (by kernel_rfl) (by simp) ?_
                refine AllReadyH.cons (o := ?ub60o) ?ub60h (fun K hK => ?ub60s) AllReadyH.nil
                case ub60h => rw [List.getElem?_toArray]; rfl
                have hs1 : U'.cell? ⟨t, 3, none⟩ = some vf := by simp [World.cell?, hbx, tabC]
                have hs2 : U'.frozen? ⟨t, 3, none⟩ = false := by simp [World.frozen?, hbx]
                go_simp
                refine hK.out _ _ trivial (fun hHeld => ?_)
                clear hK K hHeld
                clear hs1 hs2
                try simp only [Act.put, List.setIfInBounds_toArray, List.set_cons_zero, List.set_cons_succ]
                refine wpAnyH_done (by kernel_rfl) ?_ _
                go_wp2_with fail
                go_roundw
                case rel => exact ⟨k + 1, _, _, _, _, by go_num, by omega, by omega, hF'⟩
                case measure => simp [intOf]; omega
          case ub10s =>
            go_simp
            refine (Tryz.nextL hF.live (by omega) n (by omega) (by omega)).mono ?_
            rintro e U13 ⟨r0, hr1, hr2, rfl, hL, hT⟩
            obtain ⟨r, rfl⟩ : ∃ m : Nat, r0 = m := ⟨r0.toNat, by omega⟩
            have hr3 : r < n := by omega
            obtain ⟨nr, hnr1, hnr2⟩ : ∃ nr, Utf8.encode (97 + r) = nr ∧ Hid (nr = nameL r) := ⟨_, rfl, Lib.hid (enc_name (by omega))⟩
            go_wp2_with fail
            refine hK.out _ _ trivial (fun hHeld => ?_)
            clear hK K hHeld
            replace hF := hF.next hT hL
            clear hL hT
            try simp only [Act.put, List.setIfInBounds_toArray, List.set_cons_zero, List.set_cons_succ]
            refine wpAnyH_take (i := 10) (oi := ?ut61o) (v := .int .i64 (97 + r)) ?ut61h (by kernel_rfl) (by kernel_rfl) (by kernel_rfl) ?ut61q (Or.inl ⟨?ut61w, ?ut61y⟩) trivial ?ut61r
            case ut61h => rw [List.getElem?_toArray]; rfl
            case ut61q => exact fun _ _ _ h => h
            case ut61w => rfl
            case ut61y =>
              intro w hSw
              go_simp
              rw [IntKind.wrap_i64]; omega
            simp only [Act.put, List.setIfInBounds_toArray, List.set_cons_zero, List.set_cons_succ]
            refine wpAnyH_take (i := 11) (oi := ?ut62o) (v := .int .i32 (97 + r)) ?ut62h (by kernel_rfl) (by kernel_rfl) (by kernel_rfl) ?ut62q (Or.inl ⟨?ut62w, ?ut62y⟩) trivial ?ut62r
            case ut62h => rw [List.getElem?_toArray]; rfl
            case ut62q => exact fun _ _ _ h => h
            case ut62w => rfl
            case ut62y =>
              intro w hSw
              go_simp
              rw [IntKind.wrap_i32]; omega
            simp only [Act.put, List.setIfInBounds_toArray, List.set_cons_zero, List.set_cons_succ]
            refine wpAnyH_take (i := 12) (oi := ?ut63o) (v := .string nr) ?ut63h (by kernel_rfl) (by kernel_rfl) (by kernel_rfl) ?ut63q (Or.inl ⟨?ut63w, ?ut63y⟩) trivial ?ut63r
            case ut63h => rw [List.getElem?_toArray]; rfl
            case ut63q => exact fun _ _ _ h => h
            case ut63w => rfl
            case ut63y =>
              intro w hSw
              go_simp
            simp only [Act.put, List.setIfInBounds_toArray, List.set_cons_zero, List.set_cons_succ]
            refine wpAnyH_ready (rs := [1, 6]) (by kernel_rfl) (by simp) ?_
            refine AllReadyH.cons (o := ?ub64o) ?ub64h (fun K hK => ?ub64s) (AllReadyH.cons (o := ?ub65o) ?ub65h (fun K hK => ?ub65s) AllReadyH.nil)
            case ub64h => rw [List.getElem?_toArray]; rfl
            case ub65h => rw [List.getElem?_toArray]; rfl
            case ub64s =>
              have hld : U13.cell? ⟨t, 3, none⟩ = some vf := by simp [World.cell?, hF.box, tabC]
              go_simp
              refine hK.out _ _ trivial (fun hHeld => ?_)
              clear hK K hHeld
              clear hld
              try simp only [Act.put, List.setIfInBounds_toArray, List.set_cons_zero, List.set_cons_succ]
              refine wpAnyH_ready (rs := [6]) (by kernel_rfl) (by simp) ?_
              refine AllReadyH.cons (o := ?ub66o) ?ub66h (fun K hK => ?ub66s) AllReadyH.nil
              case ub66h => rw [List.getElem?_toArray]; rfl
              go_simp
              have hstr := heap_alloc_new' U13 (.cells #[.string ⟨#[120]⟩] 9)
              have hGn : wb.heap.size ≤ U13.heap.size := hF.turn.size
              have hGg : U13.heap.size ≠ w.heap.size := by have := hF.live.lt; omega
              have hGx : ∀ j, j < k → xbv j ≠ U13.heap.size := fun j hj => by have := blk_lt (hF.cols j hj); omega
              replace hF := hF.call ((Below.refl U13.heap.size U13).alloc (Nat.le_refl _) (.cells #[.string ⟨#[120]⟩] 9))
              generalize U13.heap.size = G at hstr hGn hGg hGx ⊢
              generalize World.alloc U13 (.cells #[.string ⟨#[120]⟩] 9) = U14 at hF hstr ⊢
              refine hK.out _ _ trivial (fun hHeld => ?_)
              clear hK K hHeld
              try simp only [Act.put, List.setIfInBounds_toArray, List.set_cons_zero, List.set_cons_succ]
              refine wpAnyH_take (i := 13) (oi := ?ut67o) (v := .agg #[.string nk, .slice (some ⟨G, 0, none⟩) 1 1, .string nr]) ?ut67h (by kernel_rfl) (by kernel_rfl) (by kernel_rfl) ?ut67q (Or.inl ⟨?ut67w, ?ut67y⟩) trivial ?ut67r
              case ut67h => rw [List.getElem?_toArray]; rfl
              case ut67q => exact fun _ _ _ h => h
              case ut67w => rfl
              case ut67y =>
                intro w hSw
                go_simp
              simp only [Act.put, List.setIfInBounds_toArray, List.set_cons_zero, List.set_cons_succ]
              refine wpAnyH_ready (rs := [14]) (by kernel_rfl) (by simp) ?_
              refine AllReadyH.cons (o := ?ub68o) ?ub68h (fun K hK => ?ub68s) AllReadyH.nil
              case ub68h => rw [List.getElem?_toArray]; rfl
              go_simp
              have hq := heap_alloc_new' U14 (.cells #[.string nk, .slice (some ⟨G, 0, none⟩) 1 1, .string nr] 42)
              have hbq := (Below.refl U14.heap.size U14).alloc (Nat.le_refl _) (.cells #[.string nk, .slice (some ⟨G, 0, none⟩) 1 1, .string nr] 42)
              replace hF := hF.call hbq
              replace hstr := heap_kept hbq hstr
              clear hbq
              generalize U14.heap.size = Q at hq ⊢
              generalize World.alloc U14 (.cells #[.string nk, .slice (some ⟨G, 0, none⟩) 1 1, .string nr] 42) = U15 at hF hstr hq ⊢
              refine hK.out _ _ trivial (fun hHeld => ?_)
              clear hK K hHeld
              try simp only [Act.put, List.setIfInBounds_toArray, List.set_cons_zero, List.set_cons_succ]
              refine wpAnyH_ready (rs := [15]) (by kernel_rfl) (by simp) ?_
              refine AllReadyH.cons (o := ?ub69o) ?ub69h (fun K hK => ?ub69s) AllReadyH.nil
              case ub69h => rw [List.getElem?_toArray]; rfl
              refine Eq.mpr (if_pos ?ux700) ?_
              case ux700 => rfl
              refine hF.append (.tmp 38) (.tmp 51) ?ux701 hstr hGn hGx hnk.out hnr2.out hq (by omega) ?ux702 ?ux703 ?ux704 ?ux705
              case ux701 => rfl
              case ux702 => omega
              case ux703 => rfl
              case ux704 => rfl
              intro v' U' ⟨ad', cp', hv'⟩ hbx hF'
              subst hv'
              refine hK.out _ _ trivial (fun hHeld => ?_)
              clear hK K hHeld
              clear hF
              try simp only [Act.put, List.setIfInBounds_toArray, List.set_cons_zero, List.set_cons_succ]
              refine wpAnyH_take (i := 16) (oi := ?ut71o) (v := .pointer (some ⟨t, 3, none⟩)) ?ut71h (by kernel_rfl) (by kernel_rfl) (by kernel_rfl) ?ut71q (Or.inl ⟨?ut71w, ?ut71y⟩) trivial ?ut71r
              case ut71h => rw [List.getElem?_toArray]; rfl
              case ut71q => exact fun _ _ _ h => h
              case ut71w => rfl
              case ut71y =>
                intro w hSw
                go_simp
              simp only [Act.put, List.setIfInBounds_toArray, List.set_cons_zero, List.set_cons_succ]
              refine wpAnyH_ready (rs := [17]) (by kernel_rfl) (by simp) ?_
              refine AllReadyH.cons (o := ?ub72o) ?ub72h (fun K hK => ?ub72s) AllReadyH.nil
              case ub72h => rw [List.getElem?_toArray]; rfl
              have hs1 : U'.cell? ⟨t, 3, none⟩ = some vf := by simp [World.cell?, hbx, tabC]
              have hs2 : U'.frozen? ⟨t, 3, none⟩ = false := by simp [World.frozen?, hbx]
              go_simp
              refine hK.out _ _ trivial (fun hHeld => ?_)
              clear hK K hHeld
              clear hs1 hs2
              try simp only [Act.put, List.setIfInBounds_toArray, List.set_cons_zero, List.set_cons_succ]
              refine wpAnyH_done (by kernel_rfl) ?_ _
              go_wp2_with fail
              go_roundw
              case rel => exact ⟨k + 1, _, _, _, _, by go_num, by omega, by omega, hF'⟩
              case measure => simp [intOf]; omega
            case ub65s =>
              go_simp
              have hstr := heap_alloc_new' U13 (.cells #[.string ⟨#[120]⟩] 9)
              have hGn : wb.heap.size ≤ U13.heap.size := hF.turn.size
              have hGg : U13.heap.size ≠ w.heap.size := by have := hF.live.lt; omega
              have hGx : ∀ j, j < k → xbv j ≠ U13.heap.size := fun j hj => by have := blk_lt (hF.cols j hj); omega
              replace hF := hF.call ((Below.refl U13.heap.size U13).alloc (Nat.le_refl _) (.cells #[.string ⟨#[120]⟩] 9))
              generalize U13.heap.size = G at hstr hGn hGg hGx ⊢
              generalize World.alloc U13 (.cells #[.string ⟨#[120]⟩] 9) = U16 at hF hstr ⊢
              refine hK.out _ _ trivial (fun hHeld => ?_)
              clear hK K hHeld
              try simp only [Act.put, List.setIfInBounds_toArray, List.set_cons_zero, List.set_cons_succ]
              refine wpAnyH_take (i := 13) (oi := ?ut73o) (v := .agg #[.string nk, .slice (some ⟨G, 0, none⟩) 1 1, .string nr]) ?ut73h (by kernel_rfl) (by kernel_rfl) (by kernel_rfl) ?ut73q (Or.inl ⟨?ut73w, ?ut73y⟩) trivial ?ut73r
              case ut73h => rw [List.getElem?_toArray]; rfl
              case ut73q => exact fun _ _ _ h => h
              case ut73w => rfl
              case ut73y =>
                intro w hSw
                go_simp
              simp only [Act.put, List.setIfInBounds_toArray, List.set_cons_zero, List.set_cons_succ]
              refine wpAnyH_ready (rs := [1, 14]) (by kernel_rfl) (by simp) ?_
              refine AllReadyH.cons (o := ?ub74o) ?ub74h (fun K hK => ?ub74s) (AllReadyH.cons (o := ?ub75o) ?ub75h (fun K hK => ?ub75s) AllReadyH.nil)
              case ub74h => rw [List.getElem?_toArray]; rfl
              case ub75h => rw [List.getElem?_toArray]; rfl
              case ub74s =>
                have hld : U16.cell? ⟨t, 3, none⟩ = some vf := by simp [World.cell?, hF.box, tabC]
                go_simp
                refine hK.out _ _ trivial (fun hHeld => ?_)
                clear hK K hHeld
                clear hld
                try simp only [Act.put, List.setIfInBounds_toArray, List.set_cons_zero, List.set_cons_succ]
                refine wpAnyH_ready (rs := [14]) (by kernel_rfl) (by simp) ?_
                refine AllReadyH.cons (o := ?ub76o) ?ub76h (fun K hK => ?ub76s) AllReadyH.nil
                case ub76h => rw [List.getElem?_toArray]; rfl
                go_simp
                have hq := heap_alloc_new' U16 (.cells #[.string nk, .slice (some ⟨G, 0, none⟩) 1 1, .string nr] 42)
                have hbq := (Below.refl U16.heap.size U16).alloc (Nat.le_refl _) (.cells #[.string nk, .slice (some ⟨G, 0, none⟩) 1 1, .string nr] 42)
                replace hF := hF.call hbq
                replace hstr := heap_kept hbq hstr
                clear hbq
                generalize U16.heap.size = Q at hq ⊢
                generalize World.alloc U16 (.cells #[.string nk, .slice (some ⟨G, 0, none⟩) 1 1, .string nr] 42) = U17 at hF hstr hq ⊢
                refine hK.out _ _ trivial (fun hHeld => ?_)
                clear hK K hHeld
                try simp only [Act.put, List.setIfInBounds_toArray, List.set_cons_zero, List.set_cons_succ]
                refine wpAnyH_ready (rs := [15]) (by kernel_rfl) (by simp) ?_
                refine AllReadyH.cons (o := ?ub77o) ?ub77h (fun K hK => ?ub77s) AllReadyH.nil
                case ub77h => rw [List.getElem?_toArray]; rfl
                refine Eq.mpr (if_pos ?ux780) ?_
                case ux780 => rfl
                refine hF.append (.tmp 38) (.tmp 51) ?ux781 hstr hGn hGx hnk.out hnr2.out hq (by omega) ?ux782 ?ux783 ?ux784 ?ux785
                case ux781 => rfl
                case ux782 => omega
                case ux783 => rfl
                case ux784 => rfl
                intro v' U' ⟨ad', cp', hv'⟩ hbx hF'
                subst hv'
                refine hK.out _ _ trivial (fun hHeld => ?_)
                clear hK K hHeld
                clear hF
                try simp only [Act.put, List.setIfInBounds_toArray, List.set_cons_zero, List.set_cons_succ]
                refine wpAnyH_take (i := 16) (oi := ?ut79o) (v := .pointer (some ⟨t, 3, none⟩)) ?ut79h (by kernel_rfl) (by kernel_rfl) (by kernel_rfl) ?ut79q (Or.inl ⟨?ut79w, ?ut79y⟩) trivial ?ut79r
                case ut79h => rw [List.getElem?_toArray]; rfl
                case ut79q => exact fun _ _ _ h => h
                case ut79w => rfl
                case ut79y =>
                  intro w hSw
                  go_simp
                simp only [Act.put, List.setIfInBounds_toArray, List.set_cons_zero, List.set_cons_succ]
                refine wpAnyH_ready (rs := [17]) (by kernel_rfl) (by simp) ?_
                refine AllReadyH.cons (o := ?ub80o) ?ub80h (fun K hK => ?ub80s) AllReadyH.nil
                case ub80h => rw [List.getElem?_toArray]; rfl
                have hs1 : U'.cell? ⟨t, 3, none⟩ = some vf := by simp [World.cell?, hbx, tabC]
                have hs2 : U'.frozen? ⟨t, 3, none⟩ = false := by simp [World.frozen?, hbx]
                go_simp
                refine hK.out _ _ trivial (fun hHeld => ?_)
                clear hK K hHeld
                clear hs1 hs2
                try simp only [Act.put, List.setIfInBounds_toArray, List.set_cons_zero, List.set_cons_succ]
                refine wpAnyH_done (by kernel_rfl) ?_ _
                go_wp2_with fail
                go_roundw
                case rel => exact ⟨k + 1, _, _, _, _, by go_num, by omega, by omega, hF'⟩
                case measure => simp [intOf]; omega
              case ub75s =>
                go_simp
                have hq := heap_alloc_new' U16 (.cells #[.string nk, .slice (some ⟨G, 0, none⟩) 1 1, .string nr] 42)
                have hbq := (Below.refl U16.heap.size U16).alloc (Nat.le_refl _) (.cells #[.string nk, .slice (some ⟨G, 0, none⟩) 1 1, .string nr] 42)
                replace hF := hF.call hbq
                replace hstr := heap_kept hbq hstr
                clear hbq
                generalize U16.heap.size = Q at hq ⊢
                generalize World.alloc U16 (.cells #[.string nk, .slice (some ⟨G, 0, none⟩) 1 1, .string nr] 42) = U18 at hF hstr hq ⊢
                refine hK.out _ _ trivial (fun hHeld => ?_)
                clear hK K hHeld
                try simp only [Act.put, List.setIfInBounds_toArray, List.set_cons_zero, List.set_cons_succ]
                refine wpAnyH_ready (rs := [1]) (by kernel_rfl) (by simp) ?_
                refine AllReadyH.cons (o := ?ub81o) ?ub81h (fun K hK => ?ub81s) AllReadyH.nil
                case ub81h => rw [List.getElem?_toArray]; rfl
                have hld : U18.cell? ⟨t, 3, none⟩ = some vf := by simp [World.cell?, hF.box, tabC]
                go_simp
                refine hK.out _ _ trivial (fun hHeld => ?_)
                clear hK K hHeld
                clear hld
                try simp only [Act.put, List.setIfInBounds_toArray, List.set_cons_zero, List.set_cons_succ]
                refine wpAnyH_ready (rs := [15]) (by kernel_rfl) (by simp) ?_
                refine AllReadyH.cons (o := ?ub82o) ?ub82h (fun K hK => ?ub82s) AllReadyH.nil
                case ub82h => rw [List.getElem?_toArray]; rfl
                refine Eq.mpr (if_pos ?ux830) ?_
                case ux830 => rfl
                refine hF.append (.tmp 38) (.tmp 51) ?ux831 hstr hGn hGx hnk.out hnr2.out hq (by omega) ?ux832 ?ux833 ?ux834 ?ux835
                case ux831 => rfl
                case ux832 => omega
                case ux833 => rfl
                case ux834 => rfl
                intro v' U' ⟨ad', cp', hv'⟩ hbx hF'
                subst hv'
                refine hK.out _ _ trivial (fun hHeld => ?_)
                clear hK K hHeld
                clear hF
                try simp only [Act.put, List.setIfInBounds_toArray, List.set_cons_zero, List.set_cons_succ]
                refine wpAnyH_take (i := 16) (oi := ?ut84o) (v := .pointer (some ⟨t, 3, none⟩)) ?ut84h (by kernel_rfl) (by kernel_rfl) (by kernel_rfl) ?ut84q (Or.inl ⟨?ut84w, ?ut84y⟩) trivial ?ut84r
                case ut84h => rw [List.getElem?_toArray]; rfl
                case ut84q => exact fun _ _ _ h => h
                case ut84w => rfl
                case ut84y =>
                  intro w hSw
                  go_simp
                simp only [Act.put, List.setIfInBounds_toArray, List.set_cons_zero, List.set_cons_succ]
                refine wpAnyH_ready (rs := [17]) (by kernel_rfl) (by simp) ?_
                refine AllReadyH.cons (o := ?ub85o) ?ub85h (fun K hK => ?ub85s) AllReadyH.nil
                case ub85h => rw [List.getElem?_toArray]; rfl
                have hs1 : U'.cell? ⟨t, 3, none⟩ = some vf := by simp [World.cell?, hbx, tabC]
                have hs2 : U'.frozen? ⟨t, 3, none⟩ = false := by simp [World.frozen?, hbx]
                go_simp
                refine hK.out _ _ trivial (fun hHeld => ?_)
                clear hK K hHeld
                clear hs1 hs2
                try simp only [Act.put, List.setIfInBounds_toArray, List.set_cons_zero, List.set_cons_succ]
                refine wpAnyH_done (by kernel_rfl) ?_ _
                go_wp2_with fail
                go_roundw
                case rel => exact ⟨k + 1, _, _, _, _, by go_num, by omega, by omega, hF'⟩
                case measure => simp [intOf]; omega
        · have hk2 : k ≤ 2 := by omega
          have hxb : wr.cell? ⟨w.heap.size + 1, 0, none⟩ = some v := by
            have := hF.turn.block hB.xbox (by omega)
            simp [World.cell?, this]
          obtain ⟨fa, fcap, rfl⟩ := hF.slice
          obtain ⟨va, vcap, rfl⟩ : ∃ ad c, v = .slice ad i c := by
            obtain ⟨_, ⟨hv, h0⟩ | ⟨q, cp, cur, hv, _⟩⟩ := hB.own
            · exact ⟨none, 0, by rw [hv, h0]⟩
            · exact ⟨_, _, hv⟩
          obtain ⟨t0, t1, t2, t3, t4⟩ := hF.cells
          go_wp2_with (at_builtin; refine Bld.stepL ?_ (.tmp 56) (.tmp 58) ?_ hB hF (by omega) hk2 ?_ ?_ ?_ ?_; rfl; rfl; rfl; rfl; exact ⟨_, rfl, rfl⟩; intro v3 w3 x3 hx3 hv3 hxb3 hB3; obtain ⟨va3, vc3, rfl⟩ := hv3; have r0 : w3.cell? ⟨w.heap.size + 1, 0, none⟩ = some (.slice va i vcap) := (by simp [World.cell?, hxb3]); have r1 : w3.frozen? ⟨w.heap.size + 1, 0, none⟩ = false := (by simp [World.frozen?, hxb3]))
          go_roundw
          case rel => exact ⟨i + 1, x3, _, _, by go_num, by omega, hx3.trans hxn, by omega, hB3⟩
          case measure => simp [intOf]; omega
    · subst hxn
      have hix : i = x.n := by omega
      subst hix
      obtain ⟨y, hyn, hAt, rfl⟩ := hB.at' (by omega) (by omega)
      have hy6 : y.n ≤ 6 := hAt.n6
      clear hyn
      have hbw := hB.below
      have hxb : wr.cell? ⟨w.heap.size + 1, 0, none⟩ = some (.slice (some ⟨y.tb, 0, none⟩) y.n y.cap) := by simp [World.cell?, hB.xbox]
      have hord := Tryz.order hAt
      have hR := hAt.right
      have hol := order_len hR y.n (Nat.le_refl _)
      have hcl := circN_len (reach y.gs) y.n y.n
      generalize hL : orderN y.gs (reach y.gs) y.n y.n = L at hord hol
      generalize hC : circN (reach y.gs) y.n y.n = C at hord hcl
      replace hL := Lib.hid hL
      replace hC := Lib.hid hC
      replace hol := Lib.hid hol
      unfold Schema.v at hord
      clear hB hi hb hin hR
      go_wp2_with fail
      with_reducible refine Calls.mono hord ?_
      rintro e W5 ⟨oa, oc, ca, cc, rfl, hs1, hs2, hb5⟩
      have hxb5 := cell_kept hb5 hxb
      have hof := Tryz.orderOf (hAt.next hb5)
      rw [hL.out, hC.out] at hof
      unfold Schema.v at hof
      clear hord hxb
      go_wp2_with fail
      with_reducible refine Calls.mono hof ?_
      rintro e W6 ⟨oa2, oc2, ca2, cc2, rfl, hs3, hs4, hb6⟩
      clear hof hxb5
      have hsc := Tryz.schemas_calls W6 w ts tp (below_next hbw (below_next hb5 hb6))
      go_wp2_with fail
      refine Calls.mono hsc ?_
      rintro e W7 ⟨rfl, hb7⟩
      clear hsc
      have he1 := Tryz.equalS (L.map nameL) oa oa2 oc oc2 W7 ((hs1.next hb6).next hb7) (hs3.next hb7) (by rw [List.length_map, hol.out]; omega)
      rw [List.length_map, hol.out] at he1
      go_wp2_with fail
      refine Calls.mono he1 ?_
      rintro e W8 ⟨rfl, hb8⟩
      clear he1
      have he2 := Tryz.equalS (C.map nameL) ca ca2 cc cc2 W8 (((hs2.next hb6).next hb7).next hb8) ((hs4.next hb7).next hb8) (by rw [List.length_map]; omega)
      rw [List.length_map] at he2
      go_wp2_with fail
      refine Calls.mono he2 ?_
      rintro e W9 ⟨rfl, hb9⟩
      go_wp2_with fail
      go_ret
      exact ⟨rfl, below_next hbw (below_next hb5 (below_next hb6 (below_next hb7 (below_next hb8 hb9))))⟩

end Go.Proofs
