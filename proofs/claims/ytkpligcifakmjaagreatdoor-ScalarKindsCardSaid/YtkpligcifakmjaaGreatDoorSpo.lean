/- Of package dumbmake: SpoiledExpr. No condition. -/
import Derived.Test.YtkpligcifakmjaaGreatDoorSpM
import Derived.Deep.CutRange
namespace Go.Proofs
open Go.RowKit Go.Ke

set_option maxRecDepth 20000 in
set_option maxHeartbeats 4000000 in
theorem Tryz.spoil {g N : Nat} {zad : Option Addr} {zs : List Int} {zcap : Nat} : ∀ (n : Nat) {Q : Nat → Prop} {x : Node} {l : List Ex} {ad : Option Addr} {cap : Nat} {a : Int} {w : World}, Live w g N zad zs zcap a → TreeQ Q n w (.mk x l) ad cap → QOk Q g w.heap.size → a + 2 * n ≤ 60000 →
    Calls Tryz.prog 80 #[.pointer (some ⟨g, 0, none⟩), Node.v x (.slice ad l.length cap)] w (Back g N zad zs zcap Q (n + 26) (a + 2 * n + 40) w) := by
  intro n
  induction n using Nat.strongRecOn with
  | _ n ih =>
    intro Q x l ad cap a w hl ht hQ ha
    have hg := hl.lt
    have hS := Sp.start hl ht hQ
    rw [show zeroX.cells (.slice none 0 0) = #[.int .i64 0, .int .i64 0, .int .i64 0, .int .i64 0, .int .i64 0, .string ⟨#[]⟩, .string ⟨#[]⟩, .string ⟨#[]⟩, .bool false, .slice none 0 0, .slice none 0 0, .slice none 0 0, .slice none 0 0] from rfl] at hS
    have hok := hS.ok
    unfold Node.v
    go_enter Tryz.func80, Tryz.ntmps80
    go_upto_region 1 with fail
    generalize (World.alloc _ (.cells _ 57)) = W0 at hS ⊢
    obtain ⟨q9, f9⟩ := hS.cells
    go_upto_region 2 with fail
    go_cut [15] from 10 to 15 (fun s15 wx => ∃ (fl : Bool) (b : Int), s15 = .bool fl ∧ (fl = true → 0 < l.length) ∧ b ≤ a + 1 ∧ Sp g N zad zs zcap Q w.heap.size n w wx b x l ad cap)
    case first =>
      by_cases h0 : 0 < l.length
      · have hp : (0 : Int) < l.length := by omega
        go_wp2_with fail
        refine (Tryz.flipL hS.live (by omega) 2 (by omega) (by omega)).mono ?_
        rintro e V ⟨fl, rfl, hL, hT⟩
        go_wp2_with fail
        go_meet
        exact ⟨fl, _, rfl, fun _ => h0, by omega, hS.turn hT hL⟩
      · have hp : ¬ (0 : Int) < l.length := by omega
        go_wp2_with fail
        go_meet
        exact ⟨false, a, rfl, by simp, by omega, hS⟩
    case rest =>
      obtain ⟨fl, b, rfl, hfl, hb, hS2⟩ := hcut
      clear hS q9 f9
      cases fl with
      | true =>
        have h0 := hfl rfl
        obtain ⟨q9, f9⟩ := hS2.cells
        go_wp2_with (at_builtin; refine append_clone ?_ (.const (.slice none 0 0)) (.tmp 17) ?_ hS2 ?_ ?_ ?_; rfl; rfl; rfl; rfl; rintro v1 w1 ⟨ad1, cap1, ts, rfl, hS3, hts, hR, hT3⟩; obtain ⟨z9, y9⟩ := hS3.cells)
        obtain ⟨gr, rfl, hq⟩ := Sq.of h0 hS3 hts hR hT3
        have hlen1 : ts.length ≤ l.length := by rw [← hts]; simp
        have hlen2 : l.length ≤ ts.length := by rw [← hts]; simp
        replace hts := Lib.hid hts
        clear hS2 hS3 hR hT3 q9 f9 z9 y9
        generalize World.setCell w1 ⟨w.heap.size, 9, none⟩ (.slice (some ⟨gr, 0, none⟩) l.length cap1) = W2 at hq ⊢
        refine (Tryz.nextL hq.sp.live (by omega) l.length (by omega) (by omega)).mono ?_
        rintro e V3 ⟨k0, hk1, hk2, rfl, hL, hT⟩
        replace hq := hq.turn hT hL
        clear hL hT
        obtain ⟨k, rfl⟩ : ∃ m : Nat, k0 = m := ⟨k0.toNat, by omega⟩
        have hkn : k < l.length := by omega
        go_upto_region 5 with fail
        refine wp_region_held_drew (S := fun W => W.cell? ⟨w.heap.size, 9, none⟩ = some (.slice (some ⟨gr, 0, none⟩) l.length cap1)) (by kernel_rfl) hq.sp.cells.1 (fun hHeld => ?_)
        replace hq := hq.call (Below.refl _ V3).drew
        clear hHeld
        generalize World.drew V3 = U0 at hq ⊢
        refine wpAnyH_take (i := 0) (oi := ?ut1o) (v := .pointer (some ⟨w.heap.size, 9, none⟩)) ?ut1h (by kernel_rfl) (by kernel_rfl) (by kernel_rfl) ?ut1q (Or.inl ⟨?ut1w, ?ut1y⟩) hq.sp.cells.1 ?ut1r
        case ut1h => rw [List.getElem?_toArray]; rfl
        case ut1q => exact fun _ _ _ h => h
        case ut1w => rfl
        case ut1y =>
          intro wq hSw
          replace hSw : wq.cell? ⟨w.heap.size, 9, none⟩ = some (.slice (some ⟨gr, 0, none⟩) l.length cap1) := hSw
          go_simp
        simp only [Act.put, List.setIfInBounds_toArray, List.set_cons_zero, List.set_cons_succ]
        refine wpAnyH_take (i := 1) (oi := ?ut2o) (v := .slice (some ⟨gr, 0, none⟩) l.length cap1) ?ut2h (by kernel_rfl) (by kernel_rfl) (by kernel_rfl) ?ut2q (Or.inl ⟨?ut2w, ?ut2y⟩) hq.sp.cells.1 ?ut2r
        case ut2h => rw [List.getElem?_toArray]; rfl
        case ut2q => exact fun _ _ _ h => h
        case ut2w => rfl
        case ut2y =>
          intro wq hSw
          replace hSw : wq.cell? ⟨w.heap.size, 9, none⟩ = some (.slice (some ⟨gr, 0, none⟩) l.length cap1) := hSw
          go_simp
        simp only [Act.put, List.setIfInBounds_toArray, List.set_cons_zero, List.set_cons_succ]
        refine wpAnyH_take (i := 2) (oi := ?ut3o) (v := .int .i64 k) ?ut3h (by kernel_rfl) (by kernel_rfl) (by kernel_rfl) ?ut3q (Or.inl ⟨?ut3w, ?ut3y⟩) hq.sp.cells.1 ?ut3r
        case ut3h => rw [List.getElem?_toArray]; rfl
        case ut3q => exact fun _ _ _ h => h
        case ut3w => rfl
        case ut3y =>
          intro wq hSw
          replace hSw : wq.cell? ⟨w.heap.size, 9, none⟩ = some (.slice (some ⟨gr, 0, none⟩) l.length cap1) := hSw
          go_simp
        simp only [Act.put, List.setIfInBounds_toArray, List.set_cons_zero, List.set_cons_succ]
        refine wpAnyH_take (i := 3) (oi := ?ut4o) (v := .pointer (some ⟨g, 0, none⟩)) ?ut4h (by kernel_rfl) (by kernel_rfl) (by kernel_rfl) ?ut4q (Or.inl ⟨?ut4w, ?ut4y⟩) hq.sp.cells.1 ?ut4r
        case ut4h => rw [List.getElem?_toArray]; rfl
        case ut4q => exact fun _ _ _ h => h
        case ut4w => rfl
        case ut4y =>
          intro wq hSw
          replace hSw : wq.cell? ⟨w.heap.size, 9, none⟩ = some (.slice (some ⟨gr, 0, none⟩) l.length cap1) := hSw
          go_simp
        simp only [Act.put, List.setIfInBounds_toArray, List.set_cons_zero, List.set_cons_succ]
        refine wpAnyH_take (i := 4) (oi := ?ut5o) (v := .pointer (some ⟨w.heap.size, 9, none⟩)) ?ut5h (by kernel_rfl) (by kernel_rfl) (by kernel_rfl) ?ut5q (Or.inl ⟨?ut5w, ?ut5y⟩) hq.sp.cells.1 ?ut5r
        case ut5h => rw [List.getElem?_toArray]; rfl
        case ut5q => exact fun _ _ _ h => h
        case ut5w => rfl
        case ut5y =>
          intro wq hSw
          replace hSw : wq.cell? ⟨w.heap.size, 9, none⟩ = some (.slice (some ⟨gr, 0, none⟩) l.length cap1) := hSw
          go_simp
        simp only [Act.put, List.setIfInBounds_toArray, List.set_cons_zero, List.set_cons_succ]
        refine wpAnyH_take (i := 5) (oi := ?ut6o) (v := .slice (some ⟨gr, 0, none⟩) l.length cap1) ?ut6h (by kernel_rfl) (by kernel_rfl) (by kernel_rfl) ?ut6q (Or.inl ⟨?ut6w, ?ut6y⟩) hq.sp.cells.1 ?ut6r
        case ut6h => rw [List.getElem?_toArray]; rfl
        case ut6q => exact fun _ _ _ h => h
        case ut6w => rfl
        case ut6y =>
          intro wq hSw
          replace hSw : wq.cell? ⟨w.heap.size, 9, none⟩ = some (.slice (some ⟨gr, 0, none⟩) l.length cap1) := hSw
          go_simp
        simp only [Act.put, List.setIfInBounds_toArray, List.set_cons_zero, List.set_cons_succ]
        refine wpAnyH_take (i := 6) (oi := ?ut7o) (v := .int .i64 k) ?ut7h (by kernel_rfl) (by kernel_rfl) (by kernel_rfl) ?ut7q (Or.inl ⟨?ut7w, ?ut7y⟩) hq.sp.cells.1 ?ut7r
        case ut7h => rw [List.getElem?_toArray]; rfl
        case ut7q => exact fun _ _ _ h => h
        case ut7w => rfl
        case ut7y =>
          intro wq hSw
          replace hSw : wq.cell? ⟨w.heap.size, 9, none⟩ = some (.slice (some ⟨gr, 0, none⟩) l.length cap1) := hSw
          go_simp
        simp only [Act.put, List.setIfInBounds_toArray, List.set_cons_zero, List.set_cons_succ]
        refine wpAnyH_take (i := 7) (oi := ?ut8o) (v := .pointer (some ⟨gr, k * 13, none⟩)) ?ut8h (by kernel_rfl) (by kernel_rfl) (by kernel_rfl) ?ut8q (Or.inl ⟨?ut8w, ?ut8y⟩) hq.sp.cells.1 ?ut8r
        case ut8h => rw [List.getElem?_toArray]; rfl
        case ut8q => exact fun _ _ _ h => h
        case ut8w => rfl
        case ut8y =>
          intro wq hSw
          replace hSw : wq.cell? ⟨w.heap.size, 9, none⟩ = some (.slice (some ⟨gr, 0, none⟩) l.length cap1) := hSw
          go_simp
        simp only [Act.put, List.setIfInBounds_toArray, List.set_cons_zero, List.set_cons_succ]
        refine wpAnyH_ready (rs := [8]) (by kernel_rfl) (by simp) ?_
        refine AllReadyH.cons (o := ?ub9o) ?ub9h (fun K hK => ?ub9s) AllReadyH.nil
        case ub9h => rw [List.getElem?_toArray]; rfl
        obtain ⟨gr', cap', hv, hge, hlt, hnc, _, hcc⟩ := hq.row.lies (by omega)
        injection hv with e1 e2 e3
        injection e1 with e1
        injection e1 with e1
        subst e1
        obtain ⟨d0, d1, d2, d3, d4, d5, d6, d7, d8, d9, d10, d11, d12⟩ := hcc k (by omega)
        simp only [Nat.zero_add] at d0 d1 d2 d3 d4 d5 d6 d7 d8 d9 d10 d11 d12
        clear e2 e3 hcc
        go_simp
        refine hK.out _ _ hq.sp.cells.1 (fun hHeld => ?_)
        clear hK K hHeld d0 d1 d2 d3 d4 d5 d6 d7 d8 d9 d10 d11 d12
        try simp only [Act.put, List.setIfInBounds_toArray, List.set_cons_zero, List.set_cons_succ]
        refine wpAnyH_ready (rs := [9]) (by kernel_rfl) (by simp) ?_
        refine AllReadyH.cons (o := ?ub10o) ?ub10h (fun K hK => ?ub10s) AllReadyH.nil
        case ub10h => rw [List.getElem?_toArray]; rfl
        have hkl : k < ts.length := by omega
        have hca := countR_at ts k hkl
        obtain ⟨dk, hdk⟩ := hq.row.trees ts[k] (List.getElem_mem hkl)
        have hcn : countR ts + 1 ≤ n := by
          have := hq.sp.tree.2
          rw [← hts.out] at this
          unfold countT at this
          rwa [countL_map] at this
        have hcall := ih (countT ts[k].1) (by omega) (Q := fun p => Oldie Q w.heap.size U0 p ∧ p ≠ gr) hq.sp.live (TreeQ.eta ⟨⟨dk, hdk.kept (fun _ _ => rfl) (fun p hp => ⟨hp.1, fun e => hp.2 (by simp [Value.ownBlock, e])⟩)⟩, Nat.le_refl _⟩) ⟨fun p hp => (hp.1.ne hq.sp.old).1, fun p hp => hp.1.lt hq.sp.old (by omega), by omega⟩ (by omega)
        go_simp
        refine Calls.mono hcall ?_
        rintro e W4 ⟨t', td, tc, b', rfl, hX, hb', hL, hT⟩
        have hsT := hT.size
        replace hq := hq.turn hT hL
        clear hcall hL hT
        simp only [Ex.v, Node.v, Node.cells]
        go_wp2_with fail
        refine hK.out _ _ hq.sp.cells.1 (fun hHeld => ?_)
        clear hK K hHeld
        try simp only [Act.put, List.setIfInBounds_toArray, List.set_cons_zero, List.set_cons_succ]
        refine wpAnyH_take (i := 10) (oi := ?ut11o) (v := .pointer (some ⟨gr, k * 13, none⟩)) ?ut11h (by kernel_rfl) (by kernel_rfl) (by kernel_rfl) ?ut11q (Or.inl ⟨?ut11w, ?ut11y⟩) hq.sp.cells.1 ?ut11r
        case ut11h => rw [List.getElem?_toArray]; rfl
        case ut11q => exact fun _ _ _ h => h
        case ut11w => rfl
        case ut11y =>
          intro wq hSw
          replace hSw : wq.cell? ⟨w.heap.size, 9, none⟩ = some (.slice (some ⟨gr, 0, none⟩) l.length cap1) := hSw
          go_simp
        simp only [Act.put, List.setIfInBounds_toArray, List.set_cons_zero, List.set_cons_succ]
        refine wpAnyH_ready (rs := [11]) (by kernel_rfl) (by simp) ?_
        refine AllReadyH.cons (o := ?ub12o) ?ub12h (fun K hK => ?ub12s) AllReadyH.nil
        case ub12h => rw [List.getElem?_toArray]; rfl
        obtain ⟨gr', cap', hv, _, _, _, ⟨cur, hcur, hcsz⟩, hcc⟩ := hq.row.lies (by omega)
        injection hv with e1 e2 e3
        injection e1 with e1
        injection e1 with e1
        subst e1
        obtain ⟨d0, d1, d2, d3, d4, d5, d6, d7, d8, d9, d10, d11, d12⟩ := hcc k (by omega)
        simp only [Nat.zero_add] at d0 d1 d2 d3 d4 d5 d6 d7 d8 d9 d10 d11 d12
        clear e2 e3 hcc
        have hfz : ∀ o, W4.frozen? ⟨gr, o, none⟩ = false := fun o => by simp [World.frozen?, hcur]
        have hY := hq.row.put hq.sp.old l.length (by omega) hkl t' td tc (by
          obtain ⟨⟨d, hd⟩, _⟩ := hX
          refine ⟨d, hd.kept (fun _ _ => rfl) (fun p hp => ?_)⟩
          rcases hp with hp | hp
          · exact ⟨hp.1.later hsT, hp.2⟩
          · exact ⟨.inr ⟨by omega, hp.2⟩, by omega⟩) x hok.1 (C := n + 26) (by have := hX.2; omega)
        simp only [Nat.zero_add] at hY
        go_simp
        change K _ (put13 W4 gr (k * 13) t'.node (.slice td t'.args.length tc))
        have hS5 := hq.sp.putRow hge (by simp; omega) hY
        have hb5 : (put13 W4 gr (k * 13) t'.node (.slice td t'.args.length tc)).cell? ⟨w.heap.size, 9, none⟩ = some (.slice (some ⟨gr, 0, none⟩) l.length cap1) := (World.cell?_of_block (put13_ne _ _ (by show w.heap.size ≠ gr; omega))).trans hq.sp.cells.1
        generalize put13 W4 gr (k * 13) t'.node (.slice td t'.args.length tc) = W5 at hS5 hb5 ⊢
        clear hY hfz d0 d1 d2 d3 d4 d5 d6 d7 d8 d9 d10 d11 d12 hcur hcsz hq
        generalize (ts.set k (t', td, tc)).map (·.1) = l5 at hS5
        refine hK.out _ _ hb5 (fun hHeld => ?_)
        clear hK K hHeld hb5
        try simp only [Act.put, List.setIfInBounds_toArray, List.set_cons_zero, List.set_cons_succ]
        refine wpAnyH_done (by kernel_rfl) ?_ _
        have hF := hS5.fin (K := a + 2 * n + 40) (by omega)
        obtain ⟨c0, c1, c2, c3, c4, c5, c6, c7, c8, c9, c10, c11, c12⟩ := hS5.box.is
        obtain ⟨z0, z1, z2, z3, z4, z5, z6, z7, z8, z9, z10, z11, z12⟩ := hS5.res.is
        obtain ⟨f0, f1, f2, f3, f4, f5, f6, f7, f8, f9, f10, f11, f12⟩ := hS5.res.frozs
        simp only [Node.v, Node.cells, zeroX] at hF z0 z1 z2 z3 z4 z5 z6 z7 z8 z9 z10 z11 z12
        go_wp2_with fail
        exact bodyPost_ret (res_box13 Tryz.results80 rfl hF.2) rfl hF.1
      | false =>
        go_wp2_with fail
        refine (Tryz.nextL hS2.live (by omega) 10 (by omega) (by omega)).mono ?_
        rintro e V1 ⟨r, hr1, hr2, rfl, hL, hT⟩
        have hS3 := hS2.turn hT hL
        clear hS2 hL hT
        go_upto_block 0 with fail
        go_cut [] from 37 to 106 (fun wx => ∃ (y : Node) (l2 : List Ex) (ad2 : Option Addr) (cap2 : Nat) (b2 : Int), b2 ≤ a + 2 * n + 40 ∧ Sp g N zad zs zcap Q w.heap.size (n + 26) w wx b2 y l2 ad2 cap2)
        case first =>
          rcases (by omega : r = 0 ∨ r = 1 ∨ r = 2 ∨ r = 3 ∨ r = 4 ∨ r = 5 ∨ r = 6 ∨ r = 7 ∨ r = 8 ∨ r = 9) with rfl | rfl | rfl | rfl | rfl | rfl | rfl | rfl | rfl | rfl
          · go_wp2_with fail
            refine (Tryz.rangeL hS3.live (by omega) 0 11 (by omega) (by omega) (by omega)).mono ?_
            rintro e V2 ⟨z, _, _, rfl, hL, hT⟩
            have hS4 := hS3.turn hT hL
            clear hS3 hL hT
            have c0 := hS4.box.at 0
            have f0 := hS4.box.froz 0
            simp only [Node.cells, List.getElem?_toArray, List.getElem?_cons_zero] at c0
            go_wp2_with fail
            go_meet
            exact ⟨_, _, _, _, _, by omega, (hS4.put 0 (.int .i64 z) ⟨z, x.op, x.n, x.vk, x.vn, x.vs, x.src, x.name, x.dist⟩ ⟨hok.1.vs, hok.1.src, hok.1.name⟩ rfl).less (by omega)⟩
          · go_wp2_with fail
            refine (Tryz.rangeL hS3.live (by omega) 0 28 (by omega) (by omega) (by omega)).mono ?_
            rintro e V2 ⟨z, _, _, rfl, hL, hT⟩
            have hS4 := hS3.turn hT hL
            clear hS3 hL hT
            have c0 := hS4.box.at 1
            have f0 := hS4.box.froz 1
            simp only [Node.cells, List.getElem?_toArray, List.getElem?_cons_succ, List.getElem?_cons_zero] at c0
            go_wp2_with fail
            go_meet
            exact ⟨_, _, _, _, _, by omega, (hS4.put 1 (.int .i64 z) ⟨x.k, z, x.n, x.vk, x.vn, x.vs, x.src, x.name, x.dist⟩ ⟨hok.1.vs, hok.1.src, hok.1.name⟩ rfl).less (by omega)⟩
          · go_wp2_with fail
            have hbp := heap_alloc_new V1 (.cells #[.int .i64 (-1), .int .i64 0, .int .i64 1, .int .i64 4, .int .i64 5, .int .i64 6, .int .i64 7, .int .i64 59, .int .i64 60, .int .i64 1099511627776] 3)
            have hAl := (Below.refl V1.heap.size V1).alloc (Nat.le_refl _) (.cells #[.int .i64 (-1), .int .i64 0, .int .i64 1, .int .i64 4, .int .i64 5, .int .i64 6, .int .i64 7, .int .i64 59, .int .i64 60, .int .i64 1099511627776] 3)
            have hnp : V1.heap.size ≠ g := by have := hS3.live.lt; omega
            replace hS3 := hS3.call hAl
            refine (Tryz.pickL hS3.live (by omega) _ _ [-1, 0, 1, 4, 5, 6, 7, 59, 60, 1099511627776] rfl hnp hbp (by simp) (by simp)).mono ?_
            rintro e V2 ⟨z, hz, rfl, hL, hT⟩
            have hS4 := hS3.turn hT hL
            clear hS3 hL hT hbp hAl hnp
            have c0 := hS4.box.is.c2
            have f0 := hS4.box.froz 2
            go_wp2_with fail
            go_meet
            exact ⟨_, _, _, _, _, by omega, (hS4.put 2 (.int .i64 z) ⟨x.k, x.op, z, x.vk, x.vn, x.vs, x.src, x.name, x.dist⟩ ⟨hok.1.vs, hok.1.src, hok.1.name⟩ rfl).less (by omega)⟩
          · go_wp2_with fail
            refine (Tryz.anyL hS3.live (by omega)).mono ?_
            rintro e V2 ⟨v, b2, hvs, hb2, rfl, hL, hT⟩
            have hS4 := hS3.turn hT hL
            clear hS3 hL hT
            have c3 := hS4.box.is.c3
            have c4 := hS4.box.is.c4
            have c5 := hS4.box.is.c5
            have f3 := hS4.box.froz 3
            have f4 := hS4.box.froz 4
            have f5 := hS4.box.froz 5
            simp only [Val.v, valV]
            go_wp2_with fail
            go_meet
            exact ⟨_, _, _, _, _, by omega, (((hS4.put 3 (.int .i64 v.k) ⟨x.k, x.op, x.n, v.k, x.vn, x.vs, x.src, x.name, x.dist⟩ ⟨hok.1.vs, hok.1.src, hok.1.name⟩ rfl).put 4 (.int .i64 v.n) ⟨x.k, x.op, x.n, v.k, v.n, x.vs, x.src, x.name, x.dist⟩ ⟨hok.1.vs, hok.1.src, hok.1.name⟩ rfl).put 5 (.string v.s) ⟨x.k, x.op, x.n, v.k, v.n, v.s, x.src, x.name, x.dist⟩ ⟨by show v.s.size ≤ 1000000; omega, hok.1.src, hok.1.name⟩ rfl).less (by omega)⟩
          · go_wp2_with fail
            have hbp := heap_alloc_new V1 (.cells #[.string ⟨#[]⟩, .string ⟨#[97]⟩, .string ⟨#[98]⟩, .string ⟨#[65]⟩, .string ⟨#[97, 46, 98]⟩, .string ⟨#[122, 122]⟩] 9)
            have hAl := (Below.refl V1.heap.size V1).alloc (Nat.le_refl _) (.cells #[.string ⟨#[]⟩, .string ⟨#[97]⟩, .string ⟨#[98]⟩, .string ⟨#[65]⟩, .string ⟨#[97, 46, 98]⟩, .string ⟨#[122, 122]⟩] 9)
            have hnp : V1.heap.size ≠ g := by have := hS3.live.lt; omega
            replace hS3 := hS3.call hAl
            refine (Tryz.nextL hS3.live (by omega) 6 (by omega) (by omega)).mono ?_
            rintro e V2 ⟨z0, hz1, hz2, rfl, hL, hT⟩
            have hS4 := hS3.turn hT hL
            replace hbp := hT.block hbp hnp
            clear hS3 hL hT hAl hnp
            obtain ⟨z, rfl⟩ : ∃ m : Nat, z0 = m := ⟨z0.toNat, by omega⟩
            obtain ⟨s, hcell, hss⟩ : ∃ s : ByteArray, V2.cell? ⟨V1.heap.size, z, none⟩ = some (.string s) ∧ s.size ≤ 10 := by
              have hzz : z = 0 ∨ z = 1 ∨ z = 2 ∨ z = 3 ∨ z = 4 ∨ z = 5 := by omega
              rcases hzz with rfl | rfl | rfl | rfl | rfl | rfl
              · exact ⟨⟨#[]⟩, by simp [World.cell?, hbp], by decide⟩
              · exact ⟨⟨#[97]⟩, by simp [World.cell?, hbp], by decide⟩
              · exact ⟨⟨#[98]⟩, by simp [World.cell?, hbp], by decide⟩
              · exact ⟨⟨#[65]⟩, by simp [World.cell?, hbp], by decide⟩
              · exact ⟨⟨#[97, 46, 98]⟩, by simp [World.cell?, hbp], by decide⟩
              · exact ⟨⟨#[122, 122]⟩, by simp [World.cell?, hbp], by decide⟩
            have hzn : z < 6 := by omega
            have c0 := hS4.box.at 7
            have f0 := hS4.box.froz 7
            simp only [Node.cells, List.getElem?_toArray, List.getElem?_cons_succ, List.getElem?_cons_zero] at c0
            go_wp2_with fail
            go_meet
            exact ⟨_, _, _, _, _, by omega, (hS4.put 7 (.string s) ⟨x.k, x.op, x.n, x.vk, x.vn, x.vs, x.src, s, x.dist⟩ ⟨hok.1.vs, hok.1.src, by show s.size ≤ 1000000; omega⟩ rfl).less (by omega)⟩
          · go_wp2_with fail
            have hbp := heap_alloc_new V1 (.cells #[.string ⟨#[]⟩, .string ⟨#[116]⟩, .string ⟨#[120]⟩, .string ⟨#[84]⟩] 9)
            have hAl := (Below.refl V1.heap.size V1).alloc (Nat.le_refl _) (.cells #[.string ⟨#[]⟩, .string ⟨#[116]⟩, .string ⟨#[120]⟩, .string ⟨#[84]⟩] 9)
            have hnp : V1.heap.size ≠ g := by have := hS3.live.lt; omega
            replace hS3 := hS3.call hAl
            refine (Tryz.nextL hS3.live (by omega) 4 (by omega) (by omega)).mono ?_
            rintro e V2 ⟨z0, hz1, hz2, rfl, hL, hT⟩
            have hS4 := hS3.turn hT hL
            replace hbp := hT.block hbp hnp
            clear hS3 hL hT hAl hnp
            obtain ⟨z, rfl⟩ : ∃ m : Nat, z0 = m := ⟨z0.toNat, by omega⟩
            obtain ⟨s, hcell, hss⟩ : ∃ s : ByteArray, V2.cell? ⟨V1.heap.size, z, none⟩ = some (.string s) ∧ s.size ≤ 10 := by
              have hzz : z = 0 ∨ z = 1 ∨ z = 2 ∨ z = 3 := by omega
              rcases hzz with rfl | rfl | rfl | rfl
              · exact ⟨⟨#[]⟩, by simp [World.cell?, hbp], by decide⟩
              · exact ⟨⟨#[116]⟩, by simp [World.cell?, hbp], by decide⟩
              · exact ⟨⟨#[120]⟩, by simp [World.cell?, hbp], by decide⟩
              · exact ⟨⟨#[84]⟩, by simp [World.cell?, hbp], by decide⟩
            have hzn : z < 4 := by omega
            have c0 := hS4.box.at 6
            have f0 := hS4.box.froz 6
            simp only [Node.cells, List.getElem?_toArray, List.getElem?_cons_succ, List.getElem?_cons_zero] at c0
            go_wp2_with fail
            go_meet
            exact ⟨_, _, _, _, _, by omega, (hS4.put 6 (.string s) ⟨x.k, x.op, x.n, x.vk, x.vn, x.vs, s, x.name, x.dist⟩ ⟨hok.1.vs, by show s.size ≤ 1000000; omega, hok.1.name⟩ rfl).less (by omega)⟩
          · have q9 := hS3.cells.1
            go_wp2_with (at_builtin; refine append_clone ?_ (.const (.slice none 0 0)) (.tmp 78) ?_ hS3 ?_ ?_ ?_; rfl; rfl; rfl; rfl; rintro v1 w1 ⟨ad1, cap1, ts, rfl, hS4, hts, hR, hT3⟩)
            refine (Tryz.anyL hS4.live (by omega)).mono ?_
            rintro e V2 ⟨v, b2, hvs, hb2, rfl, hL, hT⟩
            have hlen1 : ts.length ≤ l.length := by rw [← hts]; simp
            have hcn : countR ts + 1 ≤ n := by
              have := hS4.tree.2
              rw [← hts] at this
              unfold countT at this
              rwa [countL_map] at this
            have hlc := countR_len ts
            have hpos := hl.pos
            clear hts hT3 q9 hS3
            replace hR := hR.turn hS4.old (by have := hS4.size; omega) hT
            have hB := hS4.bare.turn hT hL
            clear hS4 hL hT
            simp only [Val.v]
            go_wp2_with fail
            refine (Tryz.constant v.k v.n v.s _).mono ?_
            rintro e V3 ⟨rfl, hbO⟩
            replace hR := hR.call hB.old (by have := hB.size; omega) hbO
            replace hB := hB.call hbO
            clear hbO
            have hsz3 := hB.size
            have hAl := (Below.refl V3.heap.size V3).alloc (Nat.le_refl _) (.cells (rowC [(.mk (leafX v.k v.n v.s) [], none, 0)]).toArray 57)
            have hnew := rowC_cells (l := [(.mk (leafX v.k v.n v.s) [], none, 0)]) (heap_alloc_new V3 (.cells (rowC [(.mk (leafX v.k v.n v.s) [], none, 0)]).toArray 57))
            have hsA := ex_alloc_size V3 (.cells (rowC [(.mk (leafX v.k v.n v.s) [], none, 0)]).toArray 57)
            replace hR := hR.call hB.old (by have := hB.size; omega) hAl
            replace hB := hB.call hAl
            clear hAl
            simp only [Node.v, Node.cells, leafX]
            go_wp2_with (at_builtin; refine wpList_append_rowY ?_ (.tmp 79) (.tmp 83) ?_ hB.old hR ?_ [(.mk (leafX v.k v.n v.s) [], none, 0)] V3.heap.size 0 1 hnew ?_ ?_ ?_ ?_ ?_ ?_; rfl; rfl; rfl; rfl; (intro t ht; rw [List.mem_singleton] at ht; subst ht; exact ⟨1, ⟨by show v.s.size ≤ 1000000; omega, Nat.zero_le _, Nat.zero_le _⟩, Nat.zero_le _, Nat.le_refl _, fun i hi => by simp [Ex.args] at hi⟩); simp; (simp; omega); (exact hB.size); rintro v2 w2 ⟨hR8, hg8⟩; have hcc : countR (ts ++ [(.mk (leafX v.k v.n v.s) [], none, 0)]) + 1 ≤ n + 26 := (by rw [countR_append]; simp only [countR, countT, countL]; omega); have h1 : ∃ l' ad cap m, v2 = .slice ad m cap ∧ l'.length = m ∧ TreeQ (Oldie Q w.heap.size w2) (n + 26) w2 (.mk x l') ad cap := hR8.tree2 (by simp; omega) x hok.1 hcc; obtain ⟨l2, ad2, cap2, m, rfl, hlm, hT8⟩ := h1; have hB8 := hB.grown hg8 (fun k hk => (hR.own.lt k hk).1); have c9 := hB8.box.is.c9; have f9 := hB8.box.froz 9; have hl1 : l2.length ≤ m := Nat.le_of_eq hlm; have hl2 : m ≤ l2.length := Nat.le_of_eq hlm.symm; clear hlm)
            go_meet
            exact ⟨_, _, _, _, _, by omega, hB8.args (Nat.le_antisymm hl1 hl2) hT8⟩
          · have q9 := hS3.cells.1
            have f9 := hS3.cells.2
            by_cases h0 : 0 < l.length
            · have hp : (0 : Int) < l.length := by omega
              obtain ⟨p, o, rfl, _⟩ := hS3.tree.parts h0
              have hcp := hok.2.2
              go_wp2_with fail
              · subst h
                go_meet
                exact ⟨x, [], some ⟨p, o, none⟩, 0, _, by omega, (hS3.bare.args (l' := []) (m := l.length - 1) (by simp; omega) hS3.tree.empty).less (by omega)⟩
              · go_meet
                exact ⟨x, l.tail, some ⟨p, o + 13, none⟩, cap - 1, _, by omega, (hS3.bare.args (m := l.length - 1) (by simp) (hS3.tree.tail h0)).less (by omega)⟩
            · have hp : ¬ (0 : Int) < l.length := by omega
              go_wp2_with fail
              go_meet
              exact ⟨_, _, _, _, _, by omega, hS3.less (by omega)⟩
          · go_wp2_with fail
            have hbp := heap_alloc_new V1 (.cells #[.int .i64 3, .int .i64 22, .int .i64 23, .int .i64 24, .int .i64 25] 3)
            have hAl := (Below.refl V1.heap.size V1).alloc (Nat.le_refl _) (.cells #[.int .i64 3, .int .i64 22, .int .i64 23, .int .i64 24, .int .i64 25] 3)
            have hnp : V1.heap.size ≠ g := by have := hS3.live.lt; omega
            replace hS3 := hS3.call hAl
            refine (Tryz.pickL hS3.live (by omega) _ _ [3, 22, 23, 24, 25] rfl hnp hbp (by simp) (by simp)).mono ?_
            rintro e V2 ⟨z, hz, rfl, hL, hT⟩
            have hS4 := hS3.turn hT hL
            clear hS3 hL hT hbp hAl hnp
            have hz25 : 0 ≤ z ∧ z ≤ 25 := by
              simp only [List.mem_cons, List.not_mem_nil, or_false] at hz
              omega
            clear hz
            go_wp2_with fail
            go_loopw [101] (fun i wr => ∃ (q : Nat) (y : Node) (l2 : List Ex) (ad2 : Option Addr) (cap2 : Nat), i = .int .i64 q ∧ (q : Int) ≤ z ∧ Sp g N zad zs zcap Q w.heap.size (n + q) w wr (b + 1 + 1) y l2 ad2 cap2) (fun i _ => z.toNat - (intOf i).toNat)
            case atStart => exact ⟨0, x, l, ad, cap, rfl, by omega, hS4⟩
            case round =>
              obtain ⟨q, y, l2, ad2, cap2, rfl, hq, hS5⟩ := hrel
              clear hS4
              by_cases hlt : (q : Int) < z
              · obtain ⟨c0, c1, c2, c3, c4, c5, c6, c7, c8, c9, c10, c11, c12⟩ := hS5.box.is
                have hO := hS5.tree.one hS5.old hS5.size (opX_ok 17)
                have hAl := (Below.refl wr.heap.size wr).alloc (Nat.le_refl _) (.cells (rowC [(.mk y l2, ad2, cap2)]).toArray 57)
                have hB := hS5.bare.call hAl
                go_wp2_with fail
                refine (Tryz.oper 17 _ 1 1 _).mono ?_
                rintro e V3 ⟨rfl, hbO⟩
                have hB2 := hB.call hbO
                replace hO := hO.turn hB.old (by have := hB.size; omega) (Turns.of hbO (Nat.le_of_lt hB.live.lt))
                clear hB hAl hbO hS5 c0 c1 c2 c3 c4 c5 c6 c7 c8 c9 c10 c11 c12
                obtain ⟨c0, c1, c2, c3, c4, c5, c6, c7, c8, c9, c10, c11, c12⟩ := hB2.box.is
                obtain ⟨f0, f1, f2, f3, f4, f5, f6, f7, f8, f9, f10, f11, f12⟩ := hB2.box.frozs
                have hN := (hB2.whole (m := 1) rfl hO).less (D := n + (q + 1)) (by omega)
                simp only [Node.v, Node.cells]
                go_wp2_with fail
                go_roundw
                case rel => exact ⟨_, _, _, _, _, _, ⟨q + 1, opX 17, [.mk y l2], some ⟨wr.heap.size, 0, none⟩, 1, by go_num, by omega, hN⟩, rfl⟩
                case measure => simp [intOf]; omega
              · go_wp2_with fail
                go_meet
                exact ⟨_, _, _, _, _, by omega, hS5.less (by omega)⟩
          · have f0 := hS3.box.froz 8
            have c0 := hS3.box.is.c8
            go_wp2_with fail
            go_meet
            exact ⟨_, _, _, _, _, by omega, (hS3.put 8 (.bool true) ⟨x.k, x.op, x.n, x.vk, x.vn, x.vs, x.src, x.name, true⟩ ⟨hok.1.vs, hok.1.src, hok.1.name⟩ rfl).less (by omega)⟩
        case rest =>
          obtain ⟨y, l2, ad2, cap2, b2, hb2, hS5⟩ := hcut
          have hF := hS5.fin (K := a + 2 * n + 40) (by omega)
          obtain ⟨c0, c1, c2, c3, c4, c5, c6, c7, c8, c9, c10, c11, c12⟩ := hS5.box.is
          obtain ⟨z0, z1, z2, z3, z4, z5, z6, z7, z8, z9, z10, z11, z12⟩ := hS5.res.is
          obtain ⟨f0, f1, f2, f3, f4, f5, f6, f7, f8, f9, f10, f11, f12⟩ := hS5.res.frozs
          simp only [Node.v, Node.cells, zeroX] at hF z0 z1 z2 z3 z4 z5 z6 z7 z8 z9 z10 z11 z12
          go_wp2_with fail
          exact bodyPost_ret (res_box13 Tryz.results80 rfl hF.2) rfl hF.1
end Go.Proofs
