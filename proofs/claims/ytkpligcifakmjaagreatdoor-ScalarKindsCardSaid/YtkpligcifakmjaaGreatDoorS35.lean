/- Of package dumblaw1: scalar. No condition. -/
import Derived.Test.YtkpligcifakmjaaGreatDoorFinM
namespace Go.Proofs
open Go.RowKit Go.Ke

set_option maxRecDepth 20000 in
set_option maxHeartbeats 4000000 in
theorem Tryz.s35 {w : World} {g N : Nat} {zad : Option Addr} {zs : List Int} {zcap : Nat} {a : Int} (h : Live w g N zad zs zcap a) (ha : a ≤ 100) :
    Calls Tryz.prog 35 #[.pointer (some ⟨g, 0, none⟩)] w (Told g w) := by
  have hg := h.lt
  have hpos := h.pos
  have hA := (Below.refl w.heap.size w).alloc (Nat.le_refl _) (.cells (zeroX.cells (.slice none 0 0)) 57)
  have hsz := ex_alloc_size w (.cells (zeroX.cells (.slice none 0 0)) 57)
  have hnew := Box.new w zeroX (.slice none 0 0)
  have h1 := h.call hA
  have hsz' : w.heap.size < (w.alloc (.cells (zeroX.cells (.slice none 0 0)) 57)).heap.size := by omega
  have hT0 : Turns g w (w.alloc (.cells (zeroX.cells (.slice none 0 0)) 57)) := Turns.of hA (Nat.le_of_lt hg)
  unfold zeroX Node.cells at hA h1 hsz hsz' hT0
  rw [show zeroX.cells (.slice none 0 0) = #[.int .i64 0, .int .i64 0, .int .i64 0, .int .i64 0, .int .i64 0, .string ⟨#[]⟩, .string ⟨#[]⟩, .string ⟨#[]⟩, .bool false, .slice none 0 0, .slice none 0 0, .slice none 0 0, .slice none 0 0] from rfl] at hnew
  go_enter Tryz.func35, Tryz.ntmps35
  go_wp2_with fail
  generalize (w.alloc (.cells _ 57)) = W0 at hA h1 hsz hsz' hnew hT0 ⊢
  clear hsz
  refine (Tryz.nextL h1 (by omega) 5 (by omega) (by omega)).mono ?_
  rintro e W1 ⟨r, hr1, hr2, rfl, hL, hT⟩
  have hC : Cn g N zad zs zcap W0.heap.size W0 W1 (a + 1) (.slice none 0 0) [] := ⟨hL, World.ownsRow_nil _ _ _ _, hT, by omega, rfl⟩
  clear hL hT
  go_wp2_with fail
  go_loopw [5, 11] (fun v i wr => ∃ (k : Nat) (l : List Col) (b : Int), i = .int .i64 k ∧ (k : Int) ≤ r ∧ l.length = k ∧ (∀ c ∈ l, (c.src.size ≤ 1000 ∧ c.name.size ≤ 1000) ∧ 1 ≤ c.kind ∧ c.kind ≤ 4) ∧ b ≤ a + 1 + 2 * k ∧ Cn g N zad zs zcap W0.heap.size W0 wr b v l) (fun _ i _ => r.toNat - (intOf i).toNat)
  case atStart => exact ⟨0, [], a + 1, rfl, by omega, rfl, by simp, by omega, hC⟩
  case round =>
    obtain ⟨k, l, b, rfl, hk, hl, hcs, hb, hC'⟩ := hrel
    clear hC
    have hC := hC'
    clear hC'
    by_cases hlt : (k : Int) < r
    · have hnm : (Utf8.encode (97 + k)).size ≤ 1000 := by
        rcases (by omega : k = 0 ∨ k = 1 ∨ k = 2 ∨ k = 3) with h | h | h | h <;> subst h <;> decide
      go_upto_region 5 with fail
      refine wp_region_held_drew (S := fun _ => True) (by kernel_rfl) trivial (fun _ => ?_)
      replace hC := hC.call (Below.refl _ wr).drew
      generalize World.drew wr = U0 at hC ⊢
      refine wpAnyH_take (i := 0) (oi := ?ut1o) (v := u5) ?ut1h (by kernel_rfl) (by kernel_rfl) (by kernel_rfl) ?ut1q (Or.inl ⟨?ut1w, ?ut1y⟩) trivial ?ut1r
      case ut1h => rw [List.getElem?_toArray]; rfl
      case ut1q => exact fun _ _ _ => id
      case ut1w => rfl
      case ut1y => intro w hSw; go_simp
      simp only [Act.put, List.setIfInBounds_toArray, List.set_cons_zero, List.set_cons_succ]
      refine wpAnyH_take (i := 2) (oi := ?ut2o) (v := .pointer (some ⟨g, 0, none⟩)) ?ut2h (by kernel_rfl) (by kernel_rfl) (by kernel_rfl) ?ut2q (Or.inl ⟨?ut2w, ?ut2y⟩) trivial ?ut2r
      case ut2h => rw [List.getElem?_toArray]; rfl
      case ut2q => exact fun _ _ _ => id
      case ut2w => rfl
      case ut2y => intro w hSw; go_simp
      simp only [Act.put, List.setIfInBounds_toArray, List.set_cons_zero, List.set_cons_succ]
      refine wpAnyH_take (i := 6) (oi := ?ut3o) (v := .int .i64 k) ?ut3h (by kernel_rfl) (by kernel_rfl) (by kernel_rfl) ?ut3q (Or.inl ⟨?ut3w, ?ut3y⟩) trivial ?ut3r
      case ut3h => rw [List.getElem?_toArray]; rfl
      case ut3q => exact fun _ _ _ => id
      case ut3w => rfl
      case ut3y => intro w hSw; go_simp
      simp only [Act.put, List.setIfInBounds_toArray, List.set_cons_zero, List.set_cons_succ]
      refine wpAnyH_take (i := 7) (oi := ?ut4o) (v := .int .i64 (97 + k)) ?ut4h (by kernel_rfl) (by kernel_rfl) (by kernel_rfl) ?ut4q (Or.inl ⟨?ut4w, ?ut4y⟩) trivial ?ut4r
      case ut4h => rw [List.getElem?_toArray]; rfl
      case ut4q => exact fun _ _ _ => id
      case ut4w => rfl
      case ut4y =>
        intro w hSw
        go_simp
        rw [IntKind.wrap_i64]; omega
      simp only [Act.put, List.setIfInBounds_toArray, List.set_cons_zero, List.set_cons_succ]
      refine wpAnyH_take (i := 8) (oi := ?ut5o) (v := .int .i32 (97 + k)) ?ut5h (by kernel_rfl) (by kernel_rfl) (by kernel_rfl) ?ut5q (Or.inl ⟨?ut5w, ?ut5y⟩) trivial ?ut5r
      case ut5h => rw [List.getElem?_toArray]; rfl
      case ut5q => exact fun _ _ _ => id
      case ut5w => rfl
      case ut5y =>
        intro w hSw
        go_simp
        rw [IntKind.wrap_i32]; omega
      simp only [Act.put, List.setIfInBounds_toArray, List.set_cons_zero, List.set_cons_succ]
      refine wpAnyH_take (i := 9) (oi := ?ut6o) (v := .string (Utf8.encode (97 + k))) ?ut6h (by kernel_rfl) (by kernel_rfl) (by kernel_rfl) ?ut6q (Or.inl ⟨?ut6w, ?ut6y⟩) trivial ?ut6r
      case ut6h => rw [List.getElem?_toArray]; rfl
      case ut6q => exact fun _ _ _ => id
      case ut6w => rfl
      case ut6y => intro w hSw; go_simp
      simp only [Act.put, List.setIfInBounds_toArray, List.set_cons_zero, List.set_cons_succ]
      refine wpAnyH_take (i := 10) (oi := ?ut7o) (v := .pointer (some ⟨g, 0, none⟩)) ?ut7h (by kernel_rfl) (by kernel_rfl) (by kernel_rfl) ?ut7q (Or.inl ⟨?ut7w, ?ut7y⟩) trivial ?ut7r
      case ut7h => rw [List.getElem?_toArray]; rfl
      case ut7q => exact fun _ _ _ => id
      case ut7w => rfl
      case ut7y => intro w hSw; go_simp
      simp only [Act.put, List.setIfInBounds_toArray, List.set_cons_zero, List.set_cons_succ]
      generalize Utf8.encode (97 + k) = nm at hnm ⊢
      refine wpAnyH_ready (rs := [1, 3]) (by kernel_rfl) (by simp) ?_
      refine AllReadyH.cons (o := ?ub8o) ?ub8h (fun K hK => ?ub8s) (AllReadyH.cons (o := ?ub9o) ?ub9h (fun K hK => ?ub9s) AllReadyH.nil)
      case ub8h => rw [List.getElem?_toArray]; rfl
      case ub9h => rw [List.getElem?_toArray]; rfl
      case ub8s =>
        go_simp
        have hstr := heap_alloc_new U0 (.cells #[.string ⟨#[]⟩, .string ⟨#[116]⟩] 9)
        have hGn : U0.heap.size ≠ g := by have := hC.live.lt; omega
        replace hC := hC.call ((Below.refl U0.heap.size U0).alloc (Nat.le_refl _) (.cells #[.string ⟨#[]⟩, .string ⟨#[116]⟩] 9))
        generalize U0.heap.size = G at hstr hGn ⊢
        generalize World.alloc U0 (.cells #[.string ⟨#[]⟩, .string ⟨#[116]⟩] 9) = U1 at hC hstr ⊢
        refine hK.out _ _ trivial (fun _ => ?_)
        clear hK K
        try simp only [Act.put, List.setIfInBounds_toArray, List.set_cons_zero, List.set_cons_succ]
        refine wpAnyH_ready (rs := [3]) (by kernel_rfl) (by simp) ?_
        refine AllReadyH.cons (o := ?ub10o) ?ub10h (fun K hK => ?ub10s) AllReadyH.nil
        case ub10h => rw [List.getElem?_toArray]; rfl
        go_simp
        refine (Tryz.nextL hC.live (by omega) 2 (by omega) (by omega)).mono ?_
        rintro e U2 ⟨z0, hz1, hz2, rfl, hL, hT⟩
        obtain ⟨z, rfl⟩ : ∃ m : Nat, z0 = m := ⟨z0.toNat, by omega⟩
        have hz3 : z < 2 := by omega
        go_wp2_with fail
        refine hK.out _ _ trivial (fun _ => ?_)
        clear hK K
        replace hC := hC.turn hT hL
        replace hstr := hT.block hstr hGn
        clear hL hT
        try simp only [Act.put, List.setIfInBounds_toArray, List.set_cons_zero, List.set_cons_succ]
        refine wpAnyH_take (i := 4) (oi := ?ut11o) (v := .pointer (some ⟨G, z, none⟩)) ?ut11h (by kernel_rfl) (by kernel_rfl) (by kernel_rfl) ?ut11q (Or.inl ⟨?ut11w, ?ut11y⟩) trivial ?ut11r
        case ut11h => rw [List.getElem?_toArray]; rfl
        case ut11q => exact fun _ _ _ => id
        case ut11w => rfl
        case ut11y => intro w hSw; go_simp
        simp only [Act.put, List.setIfInBounds_toArray, List.set_cons_zero, List.set_cons_succ]
        refine wpAnyH_ready (rs := [5, 11]) (by kernel_rfl) (by simp) ?_
        refine AllReadyH.cons (o := ?ub12o) ?ub12h (fun K hK => ?ub12s) (AllReadyH.cons (o := ?ub13o) ?ub13h (fun K hK => ?ub13s) AllReadyH.nil)
        case ub12h => rw [List.getElem?_toArray]; rfl
        case ub13h => rw [List.getElem?_toArray]; rfl
        case ub12s =>
          obtain ⟨s, hcell, hss⟩ : ∃ s : ByteArray, U2.cell? ⟨G, z, none⟩ = some (.string s) ∧ s.size ≤ 1000 := by
            rcases (by omega : z = 0 ∨ z = 1) with rfl | rfl
            · exact ⟨⟨#[]⟩, by simp [World.cell?, hstr], by decide⟩
            · exact ⟨⟨#[116]⟩, by simp [World.cell?, hstr], by decide⟩
          go_simp
          refine hK.out _ _ trivial (fun _ => ?_)
          clear hK K
          clear hcell
          try simp only [Act.put, List.setIfInBounds_toArray, List.set_cons_zero, List.set_cons_succ]
          refine wpAnyH_ready (rs := [11]) (by kernel_rfl) (by simp) ?_
          refine AllReadyH.cons (o := ?ub14o) ?ub14h (fun K hK => ?ub14s) AllReadyH.nil
          case ub14h => rw [List.getElem?_toArray]; rfl
          go_simp
          refine (Tryz.kindL hC.live (by omega)).mono ?_
          rintro e U3 ⟨kd, hkd1, hkd2, rfl, hL, hT⟩
          go_wp2_with fail
          refine hK.out _ _ trivial (fun _ => ?_)
          clear hK K
          replace hC := hC.turn hT hL
          replace hstr := hT.block hstr hGn
          clear hL hT
          try simp only [Act.put, List.setIfInBounds_toArray, List.set_cons_zero, List.set_cons_succ]
          refine wpAnyH_take (i := 12) (oi := ?ut15o) (v := .agg #[.string s, .string nm, .int .i64 kd]) ?ut15h (by kernel_rfl) (by kernel_rfl) (by kernel_rfl) ?ut15q (Or.inl ⟨?ut15w, ?ut15y⟩) trivial ?ut15r
          case ut15h => rw [List.getElem?_toArray]; rfl
          case ut15q => exact fun _ _ _ => id
          case ut15w => rfl
          case ut15y => intro w hSw; go_simp
          simp only [Act.put, List.setIfInBounds_toArray, List.set_cons_zero, List.set_cons_succ]
          refine wpAnyH_ready (rs := [13]) (by kernel_rfl) (by simp) ?_
          refine AllReadyH.cons (o := ?ub16o) ?ub16h (fun K hK => ?ub16s) AllReadyH.nil
          case ub16h => rw [List.getElem?_toArray]; rfl
          go_simp
          refine hK.out _ _ trivial (fun _ => ?_)
          clear hK K
          try simp only [Act.put, List.setIfInBounds_toArray, List.set_cons_zero, List.set_cons_succ]
          refine wpAnyH_ready (rs := [14]) (by kernel_rfl) (by simp) ?_
          refine AllReadyH.cons (o := ?ub17o) ?ub17h (fun K hK => ?ub17s) AllReadyH.nil
          case ub17h => rw [List.getElem?_toArray]; rfl
          refine Eq.mpr (if_pos ?ux180) ?_
          case ux180 => rfl
          refine hC.append (.tmp 14) (.tmp 27) ?ux181 ?ux182 ⟨s, nm, kd⟩ ?ux183 ?ux184 ?ux185
          case ux181 => rfl
          case ux182 => rfl
          case ux183 => omega
          case ux184 => rfl
          intro v' U' hC'
          refine hK.out _ _ trivial (fun _ => ?_)
          clear hK K
          try simp only [Act.put, List.setIfInBounds_toArray, List.set_cons_zero, List.set_cons_succ]
          refine wpAnyH_take (i := 15) (oi := ?ut19o) (v := v') ?ut19h (by kernel_rfl) (by kernel_rfl) (by kernel_rfl) ?ut19q (Or.inl ⟨?ut19w, ?ut19y⟩) trivial ?ut19r
          case ut19h => rw [List.getElem?_toArray]; rfl
          case ut19q => exact fun _ _ _ => id
          case ut19w => rfl
          case ut19y => intro w hSw; go_simp
          simp only [Act.put, List.setIfInBounds_toArray, List.set_cons_zero, List.set_cons_succ]
          refine wpAnyH_done (by kernel_rfl) ?_ _
          go_wp2_with fail
          go_roundw
          case rel => exact ⟨k + 1, l ++ [⟨s, nm, kd⟩], _, by go_num, by omega, by simp; omega, (by
            intro c hc
            rw [List.mem_append] at hc
            rcases hc with hc | hc
            · exact hcs c hc
            · rw [List.mem_singleton] at hc
              subst hc
              exact ⟨⟨hss, hnm⟩, hkd1, hkd2⟩), by omega, hC'⟩
          case measure => simp [intOf]; omega
        case ub13s =>
          go_simp
          refine (Tryz.kindL hC.live (by omega)).mono ?_
          rintro e U4 ⟨kd, hkd1, hkd2, rfl, hL, hT⟩
          go_wp2_with fail
          refine hK.out _ _ trivial (fun _ => ?_)
          clear hK K
          replace hC := hC.turn hT hL
          replace hstr := hT.block hstr hGn
          clear hL hT
          try simp only [Act.put, List.setIfInBounds_toArray, List.set_cons_zero, List.set_cons_succ]
          refine wpAnyH_ready (rs := [5]) (by kernel_rfl) (by simp) ?_
          refine AllReadyH.cons (o := ?ub20o) ?ub20h (fun K hK => ?ub20s) AllReadyH.nil
          case ub20h => rw [List.getElem?_toArray]; rfl
          obtain ⟨s, hcell, hss⟩ : ∃ s : ByteArray, U4.cell? ⟨G, z, none⟩ = some (.string s) ∧ s.size ≤ 1000 := by
            rcases (by omega : z = 0 ∨ z = 1) with rfl | rfl
            · exact ⟨⟨#[]⟩, by simp [World.cell?, hstr], by decide⟩
            · exact ⟨⟨#[116]⟩, by simp [World.cell?, hstr], by decide⟩
          go_simp
          refine hK.out _ _ trivial (fun _ => ?_)
          clear hK K
          clear hcell
          try simp only [Act.put, List.setIfInBounds_toArray, List.set_cons_zero, List.set_cons_succ]
          refine wpAnyH_take (i := 12) (oi := ?ut21o) (v := .agg #[.string s, .string nm, .int .i64 kd]) ?ut21h (by kernel_rfl) (by kernel_rfl) (by kernel_rfl) ?ut21q (Or.inl ⟨?ut21w, ?ut21y⟩) trivial ?ut21r
          case ut21h => rw [List.getElem?_toArray]; rfl
          case ut21q => exact fun _ _ _ => id
          case ut21w => rfl
          case ut21y => intro w hSw; go_simp
          simp only [Act.put, List.setIfInBounds_toArray, List.set_cons_zero, List.set_cons_succ]
          refine wpAnyH_ready (rs := [13]) (by kernel_rfl) (by simp) ?_
          refine AllReadyH.cons (o := ?ub22o) ?ub22h (fun K hK => ?ub22s) AllReadyH.nil
          case ub22h => rw [List.getElem?_toArray]; rfl
          go_simp
          refine hK.out _ _ trivial (fun _ => ?_)
          clear hK K
          try simp only [Act.put, List.setIfInBounds_toArray, List.set_cons_zero, List.set_cons_succ]
          refine wpAnyH_ready (rs := [14]) (by kernel_rfl) (by simp) ?_
          refine AllReadyH.cons (o := ?ub23o) ?ub23h (fun K hK => ?ub23s) AllReadyH.nil
          case ub23h => rw [List.getElem?_toArray]; rfl
          refine Eq.mpr (if_pos ?ux240) ?_
          case ux240 => rfl
          refine hC.append (.tmp 14) (.tmp 27) ?ux241 ?ux242 ⟨s, nm, kd⟩ ?ux243 ?ux244 ?ux245
          case ux241 => rfl
          case ux242 => rfl
          case ux243 => omega
          case ux244 => rfl
          intro v' U' hC'
          refine hK.out _ _ trivial (fun _ => ?_)
          clear hK K
          try simp only [Act.put, List.setIfInBounds_toArray, List.set_cons_zero, List.set_cons_succ]
          refine wpAnyH_take (i := 15) (oi := ?ut25o) (v := v') ?ut25h (by kernel_rfl) (by kernel_rfl) (by kernel_rfl) ?ut25q (Or.inl ⟨?ut25w, ?ut25y⟩) trivial ?ut25r
          case ut25h => rw [List.getElem?_toArray]; rfl
          case ut25q => exact fun _ _ _ => id
          case ut25w => rfl
          case ut25y => intro w hSw; go_simp
          simp only [Act.put, List.setIfInBounds_toArray, List.set_cons_zero, List.set_cons_succ]
          refine wpAnyH_done (by kernel_rfl) ?_ _
          go_wp2_with fail
          go_roundw
          case rel => exact ⟨k + 1, l ++ [⟨s, nm, kd⟩], _, by go_num, by omega, by simp; omega, (by
            intro c hc
            rw [List.mem_append] at hc
            rcases hc with hc | hc
            · exact hcs c hc
            · rw [List.mem_singleton] at hc
              subst hc
              exact ⟨⟨hss, hnm⟩, hkd1, hkd2⟩), by omega, hC'⟩
          case measure => simp [intOf]; omega
      case ub9s =>
        go_simp
        refine (Tryz.nextL hC.live (by omega) 2 (by omega) (by omega)).mono ?_
        rintro e U5 ⟨z0, hz1, hz2, rfl, hL, hT⟩
        obtain ⟨z, rfl⟩ : ∃ m : Nat, z0 = m := ⟨z0.toNat, by omega⟩
        have hz3 : z < 2 := by omega
        go_wp2_with fail
        refine hK.out _ _ trivial (fun _ => ?_)
        clear hK K
        replace hC := hC.turn hT hL
        clear hL hT
        try simp only [Act.put, List.setIfInBounds_toArray, List.set_cons_zero, List.set_cons_succ]
        refine wpAnyH_ready (rs := [1, 11]) (by kernel_rfl) (by simp) ?_
        refine AllReadyH.cons (o := ?ub26o) ?ub26h (fun K hK => ?ub26s) (AllReadyH.cons (o := ?ub27o) ?ub27h (fun K hK => ?ub27s) AllReadyH.nil)
        case ub26h => rw [List.getElem?_toArray]; rfl
        case ub27h => rw [List.getElem?_toArray]; rfl
        case ub26s =>
          go_simp
          have hstr := heap_alloc_new U5 (.cells #[.string ⟨#[]⟩, .string ⟨#[116]⟩] 9)
          have hGn : U5.heap.size ≠ g := by have := hC.live.lt; omega
          replace hC := hC.call ((Below.refl U5.heap.size U5).alloc (Nat.le_refl _) (.cells #[.string ⟨#[]⟩, .string ⟨#[116]⟩] 9))
          generalize U5.heap.size = G at hstr hGn ⊢
          generalize World.alloc U5 (.cells #[.string ⟨#[]⟩, .string ⟨#[116]⟩] 9) = U6 at hC hstr ⊢
          refine hK.out _ _ trivial (fun _ => ?_)
          clear hK K
          try simp only [Act.put, List.setIfInBounds_toArray, List.set_cons_zero, List.set_cons_succ]
          refine wpAnyH_take (i := 4) (oi := ?ut28o) (v := .pointer (some ⟨G, z, none⟩)) ?ut28h (by kernel_rfl) (by kernel_rfl) (by kernel_rfl) ?ut28q (Or.inl ⟨?ut28w, ?ut28y⟩) trivial ?ut28r
          case ut28h => rw [List.getElem?_toArray]; rfl
          case ut28q => exact fun _ _ _ => id
          case ut28w => rfl
          case ut28y => intro w hSw; go_simp
          simp only [Act.put, List.setIfInBounds_toArray, List.set_cons_zero, List.set_cons_succ]
          refine wpAnyH_ready (rs := [5, 11]) (by kernel_rfl) (by simp) ?_
          refine AllReadyH.cons (o := ?ub29o) ?ub29h (fun K hK => ?ub29s) (AllReadyH.cons (o := ?ub30o) ?ub30h (fun K hK => ?ub30s) AllReadyH.nil)
          case ub29h => rw [List.getElem?_toArray]; rfl
          case ub30h => rw [List.getElem?_toArray]; rfl
          case ub29s =>
            obtain ⟨s, hcell, hss⟩ : ∃ s : ByteArray, U6.cell? ⟨G, z, none⟩ = some (.string s) ∧ s.size ≤ 1000 := by
              rcases (by omega : z = 0 ∨ z = 1) with rfl | rfl
              · exact ⟨⟨#[]⟩, by simp [World.cell?, hstr], by decide⟩
              · exact ⟨⟨#[116]⟩, by simp [World.cell?, hstr], by decide⟩
            go_simp
            refine hK.out _ _ trivial (fun _ => ?_)
            clear hK K
            clear hcell
            try simp only [Act.put, List.setIfInBounds_toArray, List.set_cons_zero, List.set_cons_succ]
            refine wpAnyH_ready (rs := [11]) (by kernel_rfl) (by simp) ?_
            refine AllReadyH.cons (o := ?ub31o) ?ub31h (fun K hK => ?ub31s) AllReadyH.nil
            case ub31h => rw [List.getElem?_toArray]; rfl
            go_simp
            refine (Tryz.kindL hC.live (by omega)).mono ?_
            rintro e U7 ⟨kd, hkd1, hkd2, rfl, hL, hT⟩
            go_wp2_with fail
            refine hK.out _ _ trivial (fun _ => ?_)
            clear hK K
            replace hC := hC.turn hT hL
            replace hstr := hT.block hstr hGn
            clear hL hT
            try simp only [Act.put, List.setIfInBounds_toArray, List.set_cons_zero, List.set_cons_succ]
            refine wpAnyH_take (i := 12) (oi := ?ut32o) (v := .agg #[.string s, .string nm, .int .i64 kd]) ?ut32h (by kernel_rfl) (by kernel_rfl) (by kernel_rfl) ?ut32q (Or.inl ⟨?ut32w, ?ut32y⟩) trivial ?ut32r
            case ut32h => rw [List.getElem?_toArray]; rfl
            case ut32q => exact fun _ _ _ => id
            case ut32w => rfl
            case ut32y => intro w hSw; go_simp
            simp only [Act.put, List.setIfInBounds_toArray, List.set_cons_zero, List.set_cons_succ]
            refine wpAnyH_ready (rs := [13]) (by kernel_rfl) (by simp) ?_
            refine AllReadyH.cons (o := ?ub33o) ?ub33h (fun K hK => ?ub33s) AllReadyH.nil
            case ub33h => rw [List.getElem?_toArray]; rfl
            go_simp
            refine hK.out _ _ trivial (fun _ => ?_)
            clear hK K
            try simp only [Act.put, List.setIfInBounds_toArray, List.set_cons_zero, List.set_cons_succ]
            refine wpAnyH_ready (rs := [14]) (by kernel_rfl) (by simp) ?_
            refine AllReadyH.cons (o := ?ub34o) ?ub34h (fun K hK => ?ub34s) AllReadyH.nil
            case ub34h => rw [List.getElem?_toArray]; rfl
            refine Eq.mpr (if_pos ?ux350) ?_
            case ux350 => rfl
            refine hC.append (.tmp 14) (.tmp 27) ?ux351 ?ux352 ⟨s, nm, kd⟩ ?ux353 ?ux354 ?ux355
            case ux351 => rfl
            case ux352 => rfl
            case ux353 => omega
            case ux354 => rfl
            intro v' U' hC'
            refine hK.out _ _ trivial (fun _ => ?_)
            clear hK K
            try simp only [Act.put, List.setIfInBounds_toArray, List.set_cons_zero, List.set_cons_succ]
            refine wpAnyH_take (i := 15) (oi := ?ut36o) (v := v') ?ut36h (by kernel_rfl) (by kernel_rfl) (by kernel_rfl) ?ut36q (Or.inl ⟨?ut36w, ?ut36y⟩) trivial ?ut36r
            case ut36h => rw [List.getElem?_toArray]; rfl
            case ut36q => exact fun _ _ _ => id
            case ut36w => rfl
            case ut36y => intro w hSw; go_simp
            simp only [Act.put, List.setIfInBounds_toArray, List.set_cons_zero, List.set_cons_succ]
            refine wpAnyH_done (by kernel_rfl) ?_ _
            go_wp2_with fail
            go_roundw
            case rel => exact ⟨k + 1, l ++ [⟨s, nm, kd⟩], _, by go_num, by omega, by simp; omega, (by
              intro c hc
              rw [List.mem_append] at hc
              rcases hc with hc | hc
              · exact hcs c hc
              · rw [List.mem_singleton] at hc
                subst hc
                exact ⟨⟨hss, hnm⟩, hkd1, hkd2⟩), by omega, hC'⟩
            case measure => simp [intOf]; omega
          case ub30s =>
            go_simp
            refine (Tryz.kindL hC.live (by omega)).mono ?_
            rintro e U8 ⟨kd, hkd1, hkd2, rfl, hL, hT⟩
            go_wp2_with fail
            refine hK.out _ _ trivial (fun _ => ?_)
            clear hK K
            replace hC := hC.turn hT hL
            replace hstr := hT.block hstr hGn
            clear hL hT
            try simp only [Act.put, List.setIfInBounds_toArray, List.set_cons_zero, List.set_cons_succ]
            refine wpAnyH_ready (rs := [5]) (by kernel_rfl) (by simp) ?_
            refine AllReadyH.cons (o := ?ub37o) ?ub37h (fun K hK => ?ub37s) AllReadyH.nil
            case ub37h => rw [List.getElem?_toArray]; rfl
            obtain ⟨s, hcell, hss⟩ : ∃ s : ByteArray, U8.cell? ⟨G, z, none⟩ = some (.string s) ∧ s.size ≤ 1000 := by
              rcases (by omega : z = 0 ∨ z = 1) with rfl | rfl
              · exact ⟨⟨#[]⟩, by simp [World.cell?, hstr], by decide⟩
              · exact ⟨⟨#[116]⟩, by simp [World.cell?, hstr], by decide⟩
            go_simp
            refine hK.out _ _ trivial (fun _ => ?_)
            clear hK K
            clear hcell
            try simp only [Act.put, List.setIfInBounds_toArray, List.set_cons_zero, List.set_cons_succ]
            refine wpAnyH_take (i := 12) (oi := ?ut38o) (v := .agg #[.string s, .string nm, .int .i64 kd]) ?ut38h (by kernel_rfl) (by kernel_rfl) (by kernel_rfl) ?ut38q (Or.inl ⟨?ut38w, ?ut38y⟩) trivial ?ut38r
            case ut38h => rw [List.getElem?_toArray]; rfl
            case ut38q => exact fun _ _ _ => id
            case ut38w => rfl
            case ut38y => intro w hSw; go_simp
            simp only [Act.put, List.setIfInBounds_toArray, List.set_cons_zero, List.set_cons_succ]
            refine wpAnyH_ready (rs := [13]) (by kernel_rfl) (by simp) ?_
            refine AllReadyH.cons (o := ?ub39o) ?ub39h (fun K hK => ?ub39s) AllReadyH.nil
            case ub39h => rw [List.getElem?_toArray]; rfl
            go_simp
            refine hK.out _ _ trivial (fun _ => ?_)
            clear hK K
            try simp only [Act.put, List.setIfInBounds_toArray, List.set_cons_zero, List.set_cons_succ]
            refine wpAnyH_ready (rs := [14]) (by kernel_rfl) (by simp) ?_
            refine AllReadyH.cons (o := ?ub40o) ?ub40h (fun K hK => ?ub40s) AllReadyH.nil
            case ub40h => rw [List.getElem?_toArray]; rfl
            refine Eq.mpr (if_pos ?ux410) ?_
            case ux410 => rfl
            refine hC.append (.tmp 14) (.tmp 27) ?ux411 ?ux412 ⟨s, nm, kd⟩ ?ux413 ?ux414 ?ux415
            case ux411 => rfl
            case ux412 => rfl
            case ux413 => omega
            case ux414 => rfl
            intro v' U' hC'
            refine hK.out _ _ trivial (fun _ => ?_)
            clear hK K
            try simp only [Act.put, List.setIfInBounds_toArray, List.set_cons_zero, List.set_cons_succ]
            refine wpAnyH_take (i := 15) (oi := ?ut42o) (v := v') ?ut42h (by kernel_rfl) (by kernel_rfl) (by kernel_rfl) ?ut42q (Or.inl ⟨?ut42w, ?ut42y⟩) trivial ?ut42r
            case ut42h => rw [List.getElem?_toArray]; rfl
            case ut42q => exact fun _ _ _ => id
            case ut42w => rfl
            case ut42y => intro w hSw; go_simp
            simp only [Act.put, List.setIfInBounds_toArray, List.set_cons_zero, List.set_cons_succ]
            refine wpAnyH_done (by kernel_rfl) ?_ _
            go_wp2_with fail
            go_roundw
            case rel => exact ⟨k + 1, l ++ [⟨s, nm, kd⟩], _, by go_num, by omega, by simp; omega, (by
              intro c hc
              rw [List.mem_append] at hc
              rcases hc with hc | hc
              · exact hcs c hc
              · rw [List.mem_singleton] at hc
                subst hc
                exact ⟨⟨hss, hnm⟩, hkd1, hkd2⟩), by omega, hC'⟩
            case measure => simp [intOf]; omega
        case ub27s =>
          go_simp
          refine (Tryz.kindL hC.live (by omega)).mono ?_
          rintro e U9 ⟨kd, hkd1, hkd2, rfl, hL, hT⟩
          go_wp2_with fail
          refine hK.out _ _ trivial (fun _ => ?_)
          clear hK K
          replace hC := hC.turn hT hL
          clear hL hT
          try simp only [Act.put, List.setIfInBounds_toArray, List.set_cons_zero, List.set_cons_succ]
          refine wpAnyH_ready (rs := [1]) (by kernel_rfl) (by simp) ?_
          refine AllReadyH.cons (o := ?ub43o) ?ub43h (fun K hK => ?ub43s) AllReadyH.nil
          case ub43h => rw [List.getElem?_toArray]; rfl
          go_simp
          have hstr := heap_alloc_new U9 (.cells #[.string ⟨#[]⟩, .string ⟨#[116]⟩] 9)
          have hGn : U9.heap.size ≠ g := by have := hC.live.lt; omega
          replace hC := hC.call ((Below.refl U9.heap.size U9).alloc (Nat.le_refl _) (.cells #[.string ⟨#[]⟩, .string ⟨#[116]⟩] 9))
          generalize U9.heap.size = G at hstr hGn ⊢
          generalize World.alloc U9 (.cells #[.string ⟨#[]⟩, .string ⟨#[116]⟩] 9) = U10 at hC hstr ⊢
          refine hK.out _ _ trivial (fun _ => ?_)
          clear hK K
          try simp only [Act.put, List.setIfInBounds_toArray, List.set_cons_zero, List.set_cons_succ]
          refine wpAnyH_take (i := 4) (oi := ?ut44o) (v := .pointer (some ⟨G, z, none⟩)) ?ut44h (by kernel_rfl) (by kernel_rfl) (by kernel_rfl) ?ut44q (Or.inl ⟨?ut44w, ?ut44y⟩) trivial ?ut44r
          case ut44h => rw [List.getElem?_toArray]; rfl
          case ut44q => exact fun _ _ _ => id
          case ut44w => rfl
          case ut44y => intro w hSw; go_simp
          simp only [Act.put, List.setIfInBounds_toArray, List.set_cons_zero, List.set_cons_succ]
          refine wpAnyH_ready (rs := [5]) (by kernel_rfl) (by simp) ?_
          refine AllReadyH.cons (o := ?ub45o) ?ub45h (fun K hK => ?ub45s) AllReadyH.nil
          case ub45h => rw [List.getElem?_toArray]; rfl
          obtain ⟨s, hcell, hss⟩ : ∃ s : ByteArray, U10.cell? ⟨G, z, none⟩ = some (.string s) ∧ s.size ≤ 1000 := by
            rcases (by omega : z = 0 ∨ z = 1) with rfl | rfl
            · exact ⟨⟨#[]⟩, by simp [World.cell?, hstr], by decide⟩
            · exact ⟨⟨#[116]⟩, by simp [World.cell?, hstr], by decide⟩
          go_simp
          refine hK.out _ _ trivial (fun _ => ?_)
          clear hK K
          clear hcell
          try simp only [Act.put, List.setIfInBounds_toArray, List.set_cons_zero, List.set_cons_succ]
          refine wpAnyH_take (i := 12) (oi := ?ut46o) (v := .agg #[.string s, .string nm, .int .i64 kd]) ?ut46h (by kernel_rfl) (by kernel_rfl) (by kernel_rfl) ?ut46q (Or.inl ⟨?ut46w, ?ut46y⟩) trivial ?ut46r
          case ut46h => rw [List.getElem?_toArray]; rfl
          case ut46q => exact fun _ _ _ => id
          case ut46w => rfl
          case ut46y => intro w hSw; go_simp
          simp only [Act.put, List.setIfInBounds_toArray, List.set_cons_zero, List.set_cons_succ]
          refine wpAnyH_ready (rs := [13]) (by kernel_rfl) (by simp) ?_
          refine AllReadyH.cons (o := ?ub47o) ?ub47h (fun K hK => ?ub47s) AllReadyH.nil
          case ub47h => rw [List.getElem?_toArray]; rfl
          go_simp
          refine hK.out _ _ trivial (fun _ => ?_)
          clear hK K
          try simp only [Act.put, List.setIfInBounds_toArray, List.set_cons_zero, List.set_cons_succ]
          refine wpAnyH_ready (rs := [14]) (by kernel_rfl) (by simp) ?_
          refine AllReadyH.cons (o := ?ub48o) ?ub48h (fun K hK => ?ub48s) AllReadyH.nil
          case ub48h => rw [List.getElem?_toArray]; rfl
          refine Eq.mpr (if_pos ?ux490) ?_
          case ux490 => rfl
          refine hC.append (.tmp 14) (.tmp 27) ?ux491 ?ux492 ⟨s, nm, kd⟩ ?ux493 ?ux494 ?ux495
          case ux491 => rfl
          case ux492 => rfl
          case ux493 => omega
          case ux494 => rfl
          intro v' U' hC'
          refine hK.out _ _ trivial (fun _ => ?_)
          clear hK K
          try simp only [Act.put, List.setIfInBounds_toArray, List.set_cons_zero, List.set_cons_succ]
          refine wpAnyH_take (i := 15) (oi := ?ut50o) (v := v') ?ut50h (by kernel_rfl) (by kernel_rfl) (by kernel_rfl) ?ut50q (Or.inl ⟨?ut50w, ?ut50y⟩) trivial ?ut50r
          case ut50h => rw [List.getElem?_toArray]; rfl
          case ut50q => exact fun _ _ _ => id
          case ut50w => rfl
          case ut50y => intro w hSw; go_simp
          simp only [Act.put, List.setIfInBounds_toArray, List.set_cons_zero, List.set_cons_succ]
          refine wpAnyH_done (by kernel_rfl) ?_ _
          go_wp2_with fail
          go_roundw
          case rel => exact ⟨k + 1, l ++ [⟨s, nm, kd⟩], _, by go_num, by omega, by simp; omega, (by
            intro c hc
            rw [List.mem_append] at hc
            rcases hc with hc | hc
            · exact hcs c hc
            · rw [List.mem_singleton] at hc
              subst hc
              exact ⟨⟨hss, hnm⟩, hkd1, hkd2⟩), by omega, hC'⟩
          case measure => simp [intOf]; omega
    · have hl4 : l.length ≤ 4 := by omega
      have hb9 : b ≤ a + 9 := by omega
      clear hb hl hk hr1 hr2
      go_wp2_with fail
      refine (Tryz.kindsG hC.live (by omega)).mono ?_
      rintro e W3 ⟨pv, ps, b3, rfl, hps, hpk, hb3, hK⟩
      have hs0 := hC.turns.size
      have hclt : ∀ k, u5.ownBlock = some k → k < wr.heap.size := fun k hk => (World.ownsRow.lt hC.row k hk).2
      replace hC := hC.turn hK.turns hK.live
      go_wp2_with fail
      refine (Tryz.kindL hC.live (by omega)).mono ?_
      rintro e W4 ⟨kd, hkd1, hkd2, rfl, hL, hT⟩
      replace hC := hC.turn hT hL
      replace hK := hK.turn hT hL
      clear hL hT
      go_wp2_with fail
      refine (Tryz.nextL hC.live (by omega) 5 (by omega) (by omega)).mono ?_
      rintro e W5 ⟨r5, hr3, hr4, rfl, hL, hT⟩
      replace hC := hC.turn hT hL
      replace hK := hK.turn hT hL
      clear hL hT
      obtain ⟨cad, cc, rfl, hcols⟩ := hC.cols
      obtain ⟨pad, pc, rfl, hints⟩ := hK.ints (fun x hx => by have := hpk x hx; omega)
      have hplt : ∀ k, (Value.slice pad ps.length pc).ownBlock = some k → k < W5.heap.size := fun k hk => (World.ownsRow.lt hK.row k hk).2
      have hs5 := hK.turns.size
      have hG : Gen ⟨g, N, zad, zs, zcap, l, ps, cad, pad, cc, pc⟩ W5 _ := ⟨hC.live, hcols, hints⟩
      go_wp2_with fail
      refine Calls.mono (Tryz.scalarN (P := ⟨g, N, zad, zs, zcap, l, ps, cad, pad, cc, pc⟩) ⟨by show l.length ≤ 100; omega, by show ps.length ≤ 100; omega, fun c hc => (hcs c hc).1⟩ r5 hr3 hr4 hG (by omega) hkd1 hkd2) ?_
      rintro e W6 ⟨t, ad, cap, b6, rfl, hX, hb6, hL, hT⟩
      have hs6 := hT.size
      replace hC := hC.turn hT hL
      replace hK := hK.turn hT hL
      clear hL hT hG hcols hints
      have hres := hC.turns.block hnew (by omega)
      have hF := Fi.start hC hK.row hclt hplt hs0 hs5 hX hres (hT0.trans hC.turns) hg hsz' (Nat.le_refl _) hs6
      clear hC hK hX hres hclt hplt
      unfold Node.cells at hF
      simp only [Ex.v, Node.v, Node.cells]
      go_upto_region 9 with fail
      generalize World.alloc W6 (.cells _ 57) = W7 at hF ⊢
      generalize W6.heap.size = B8 at hF ⊢
      have hbp := heap_alloc_new W7 (.cells #[.int .i64 0, .int .i64 0, .int .i64 1, .int .i64 2] 3)
      have hAl := (Below.refl W7.heap.size W7).alloc (Nat.le_refl _) (.cells #[.int .i64 0, .int .i64 0, .int .i64 1, .int .i64 2] 3)
      have hnp : W7.heap.size ≠ g := by have := hF.live.lt; omega
      replace hF := hF.call hAl
      go_wp2_with fail
      refine (Tryz.pickL hF.live (by omega) _ _ [0, 0, 1, 2] rfl hnp hbp (by simp) (by simp)).mono ?_
      rintro e W8 ⟨z, hz, rfl, hL, hT⟩
      replace hF := hF.turn hT hL
      clear hL hT hbp hAl hnp
      have hz2 : 0 ≤ z ∧ z ≤ 2 := by
        simp only [List.mem_cons, List.not_mem_nil, or_false] at hz
        omega
      clear hz
      go_wp2_with fail
      go_loopw [43] (fun i wq => ∃ (q : Nat) (t : Ex) (ad : Option Addr) (cap : Nat) (b : Int), i = .int .i64 q ∧ (q : Int) ≤ z ∧ b ≤ a + 23460 + 2000 * q ∧ Fi g N zad zs zcap W0.heap.size wr.heap.size W5.heap.size B8 w.heap.size (781 + 26 * q) w wq b (.slice cad l.length cc) l (.slice pad ps.length pc) ps t ad cap) (fun i _ => z.toNat - (intOf i).toNat)
      case atStart => exact ⟨0, t, ad, cap, _, rfl, by omega, by omega, hF⟩
      case round =>
        obtain ⟨q, t2, ad2, cap2, b2, rfl, hq, hb2, hF2⟩ := hrel
        clear hF
        by_cases hlt : (q : Int) < z
        · obtain ⟨c0, c1, c2, c3, c4, c5, c6, c7, c8, c9, c10, c11, c12⟩ := hF2.box.is
          go_wp2_with fail
          refine Calls.mono (hF2.spoil (by omega)) ?_
          rintro e V ⟨t3, ad3, cap3, b3, rfl, hb3, hF3, hT3⟩
          clear hF2 c0 c1 c2 c3 c4 c5 c6 c7 c8 c9 c10 c11 c12
          obtain ⟨c0, c1, c2, c3, c4, c5, c6, c7, c8, c9, c10, c11, c12⟩ := hF3.box.is
          obtain ⟨f0, f1, f2, f3, f4, f5, f6, f7, f8, f9, f10, f11, f12⟩ := hF3.box.frozs
          have hN := (hF3.whole hT3).less (D := 781 + 26 * (q + 1)) (by omega)
          simp only [Ex.v, Node.v, Node.cells]
          go_wp2_with fail
          go_roundw
          case rel => exact ⟨q + 1, t3, ad3, cap3, b3, by go_num, by omega, by omega, hN⟩
          case measure => simp [intOf]; omega
        · have hF := hF2.less (D := 833) (by omega)
          have hbb : b2 ≤ a + 27460 := by omega
          clear hF2 hb2
          go_wp2_with fail
          refine (Tryz.flipL hF.live (by omega) 20 (by omega) (by omega)).mono ?_
          rintro e V ⟨fl, rfl, hL, hT⟩
          replace hF := hF.turn hT hL
          clear hL hT
          cases fl with
          | true =>
            have hbp := heap_alloc_new V (.cells #[.int .i64 0, .int .i64 5] 3)
            have hAl := (Below.refl V.heap.size V).alloc (Nat.le_refl _) (.cells #[.int .i64 0, .int .i64 5] 3)
            have hnp : V.heap.size ≠ g := by have := hF.live.lt; omega
            replace hF := hF.call hAl
            go_wp2_with fail
            refine (Tryz.pickL hF.live (by omega) _ _ [0, 5] rfl hnp hbp (by simp) (by simp)).mono ?_
            rintro e V2 ⟨c, hc, rfl, hL, hT⟩
            replace hF := hF.turn hT hL
            clear hL hT hbp hAl hnp
            have hpe : ∀ p ∈ ps ++ [c], 0 ≤ p ∧ p ≤ 5 := by
              intro p hp
              rw [List.mem_append] at hp
              rcases hp with hp | hp
              · have := hpk p hp; omega
              · simp only [List.mem_cons, List.not_mem_nil, or_false] at hp hc
                omega
            clear hc
            go_upto_region 15 with (at_builtin; refine append_fi ?_ (.tmp 51) (.tmp 55) ?_ hF c (by omega) ?_ ?_ ?_; rfl; rfl; rfl; exact ⟨_, rfl, rfl⟩; intro v3 V3 hE)
            obtain ⟨pad3, pc3, rfl⟩ := hE.pslice
            refine wp_region_held_drew (S := fun _ => True) (by kernel_rfl) trivial (fun _ => ?_)
            replace hE := hE.call (Below.refl _ V3).drew
            generalize World.drew V3 = Y0 at hE ⊢
            obtain ⟨c0, c1, c2, c3, c4, c5, c6, c7, c8, c9, c10, c11, c12⟩ := hE.box.is
            obtain ⟨z0, z1, z2, z3, z4, z5, z6, z7, z8, z9, z10, z11, z12⟩ := hE.res.is
            obtain ⟨f0, f1, f2, f3, f4, f5, f6, f7, f8, f9, f10, f11, f12⟩ := hE.res.frozs
            simp only [zeroX] at z0 z1 z2 z3 z4 z5 z6 z7 z8
            refine wpAnyH_take (i := 0) (oi := ?xt1o) (v := .slice cad l.length cc) ?xt1h (by kernel_rfl) (by kernel_rfl) (by kernel_rfl) ?xt1q (Or.inl ⟨?xt1w, ?xt1y⟩) trivial ?xt1r
            case xt1h => rw [List.getElem?_toArray]; rfl
            case xt1q => exact fun _ _ _ => id
            case xt1w => rfl
            case xt1y => intro w hSw; go_simp
            simp only [Act.put, List.setIfInBounds_toArray, List.set_cons_zero, List.set_cons_succ]
            refine wpAnyH_take (i := 1) (oi := ?xt2o) (v := .slice pad3 (ps ++ [c]).length pc3) ?xt2h (by kernel_rfl) (by kernel_rfl) (by kernel_rfl) ?xt2q (Or.inl ⟨?xt2w, ?xt2y⟩) trivial ?xt2r
            case xt2h => rw [List.getElem?_toArray]; rfl
            case xt2q => exact fun _ _ _ => id
            case xt2w => rfl
            case xt2y => intro w hSw; go_simp
            simp only [Act.put, List.setIfInBounds_toArray, List.set_cons_zero, List.set_cons_succ]
            refine wpAnyH_take (i := 3) (oi := ?xt3o) (v := .slice cad l.length cc) ?xt3h (by kernel_rfl) (by kernel_rfl) (by kernel_rfl) ?xt3q (Or.inl ⟨?xt3w, ?xt3y⟩) trivial ?xt3r
            case xt3h => rw [List.getElem?_toArray]; rfl
            case xt3q => exact fun _ _ _ => id
            case xt3w => rfl
            case xt3y => intro w hSw; go_simp
            simp only [Act.put, List.setIfInBounds_toArray, List.set_cons_zero, List.set_cons_succ]
            refine wpAnyH_take (i := 4) (oi := ?xt4o) (v := .slice pad3 (ps ++ [c]).length pc3) ?xt4h (by kernel_rfl) (by kernel_rfl) (by kernel_rfl) ?xt4q (Or.inl ⟨?xt4w, ?xt4y⟩) trivial ?xt4r
            case xt4h => rw [List.getElem?_toArray]; rfl
            case xt4q => exact fun _ _ _ => id
            case xt4w => rfl
            case xt4y => intro w hSw; go_simp
            simp only [Act.put, List.setIfInBounds_toArray, List.set_cons_zero, List.set_cons_succ]
            refine wpAnyH_ready (rs := [2]) (by kernel_rfl) (by simp) ?_
            refine AllReadyH.cons (o := ?xb5o) ?xb5h (fun K hK => ?xb5s) AllReadyH.nil
            case xb5h => rw [List.getElem?_toArray]; rfl
            go_simp
            refine hK.out _ _ trivial (fun _ => ?_)
            clear hK K
            try simp only [Act.put, List.setIfInBounds_toArray, List.set_cons_zero, List.set_cons_succ]
            refine wpAnyH_ready (rs := [5]) (by kernel_rfl) (by simp) ?_
            refine AllReadyH.cons (o := ?xb6o) ?xb6h (fun K hK => ?xb6s) AllReadyH.nil
            case xb6h => rw [List.getElem?_toArray]; rfl
            go_simp
            refine hK.out _ _ trivial (fun _ => ?_)
            clear hK K
            try simp only [Act.put, List.setIfInBounds_toArray, List.set_cons_zero, List.set_cons_succ]
            refine wpAnyH_done (by kernel_rfl) ?_ _
            have hF := hE.fin (by omega) hl4 (by first | omega | (simp; omega)) (fun c hc => (hcs c hc).2) hpe
            simp only [Ex.v, Node.v, Node.cells] at hF
            go_wp2_with fail
            try simp only [List.length_append, List.length_cons, List.length_nil, Nat.zero_add] at hF
            exact bodyPost_ret (Tryz.res35 rfl rfl rfl hF.2) rfl hF.1
          | false =>
            have hE := hF.fe
            have hpe : ∀ p ∈ ps, 0 ≤ p ∧ p ≤ 5 := fun p hp => by have := hpk p hp; omega
            clear hF
            go_upto_region 15 with fail
            refine wp_region_held_drew (S := fun _ => True) (by kernel_rfl) trivial (fun _ => ?_)
            replace hE := hE.call (Below.refl _ V).drew
            generalize World.drew V = Y0 at hE ⊢
            obtain ⟨c0, c1, c2, c3, c4, c5, c6, c7, c8, c9, c10, c11, c12⟩ := hE.box.is
            obtain ⟨z0, z1, z2, z3, z4, z5, z6, z7, z8, z9, z10, z11, z12⟩ := hE.res.is
            obtain ⟨f0, f1, f2, f3, f4, f5, f6, f7, f8, f9, f10, f11, f12⟩ := hE.res.frozs
            simp only [zeroX] at z0 z1 z2 z3 z4 z5 z6 z7 z8
            refine wpAnyH_take (i := 0) (oi := ?yt1o) (v := .slice cad l.length cc) ?yt1h (by kernel_rfl) (by kernel_rfl) (by kernel_rfl) ?yt1q (Or.inl ⟨?yt1w, ?yt1y⟩) trivial ?yt1r
            case yt1h => rw [List.getElem?_toArray]; rfl
            case yt1q => exact fun _ _ _ => id
            case yt1w => rfl
            case yt1y => intro w hSw; go_simp
            simp only [Act.put, List.setIfInBounds_toArray, List.set_cons_zero, List.set_cons_succ]
            refine wpAnyH_take (i := 1) (oi := ?yt2o) (v := .slice pad ps.length pc) ?yt2h (by kernel_rfl) (by kernel_rfl) (by kernel_rfl) ?yt2q (Or.inl ⟨?yt2w, ?yt2y⟩) trivial ?yt2r
            case yt2h => rw [List.getElem?_toArray]; rfl
            case yt2q => exact fun _ _ _ => id
            case yt2w => rfl
            case yt2y => intro w hSw; go_simp
            simp only [Act.put, List.setIfInBounds_toArray, List.set_cons_zero, List.set_cons_succ]
            refine wpAnyH_take (i := 3) (oi := ?yt3o) (v := .slice cad l.length cc) ?yt3h (by kernel_rfl) (by kernel_rfl) (by kernel_rfl) ?yt3q (Or.inl ⟨?yt3w, ?yt3y⟩) trivial ?yt3r
            case yt3h => rw [List.getElem?_toArray]; rfl
            case yt3q => exact fun _ _ _ => id
            case yt3w => rfl
            case yt3y => intro w hSw; go_simp
            simp only [Act.put, List.setIfInBounds_toArray, List.set_cons_zero, List.set_cons_succ]
            refine wpAnyH_take (i := 4) (oi := ?yt4o) (v := .slice pad ps.length pc) ?yt4h (by kernel_rfl) (by kernel_rfl) (by kernel_rfl) ?yt4q (Or.inl ⟨?yt4w, ?yt4y⟩) trivial ?yt4r
            case yt4h => rw [List.getElem?_toArray]; rfl
            case yt4q => exact fun _ _ _ => id
            case yt4w => rfl
            case yt4y => intro w hSw; go_simp
            simp only [Act.put, List.setIfInBounds_toArray, List.set_cons_zero, List.set_cons_succ]
            refine wpAnyH_ready (rs := [2]) (by kernel_rfl) (by simp) ?_
            refine AllReadyH.cons (o := ?yb5o) ?yb5h (fun K hK => ?yb5s) AllReadyH.nil
            case yb5h => rw [List.getElem?_toArray]; rfl
            go_simp
            refine hK.out _ _ trivial (fun _ => ?_)
            clear hK K
            try simp only [Act.put, List.setIfInBounds_toArray, List.set_cons_zero, List.set_cons_succ]
            refine wpAnyH_ready (rs := [5]) (by kernel_rfl) (by simp) ?_
            refine AllReadyH.cons (o := ?yb6o) ?yb6h (fun K hK => ?yb6s) AllReadyH.nil
            case yb6h => rw [List.getElem?_toArray]; rfl
            go_simp
            refine hK.out _ _ trivial (fun _ => ?_)
            clear hK K
            try simp only [Act.put, List.setIfInBounds_toArray, List.set_cons_zero, List.set_cons_succ]
            refine wpAnyH_done (by kernel_rfl) ?_ _
            have hF := hE.fin (by omega) hl4 (by first | omega | (simp; omega)) (fun c hc => (hcs c hc).2) hpe
            simp only [Ex.v, Node.v, Node.cells] at hF
            go_wp2_with fail
            try simp only [List.length_append, List.length_cons, List.length_nil, Nat.zero_add] at hF
            exact bodyPost_ret (Tryz.res35 rfl rfl rfl hF.2) rfl hF.1
end Go.Proofs
