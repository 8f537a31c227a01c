/- Of the document's package: the list with a key. The key has fewer than 1000000000 bytes. -/
import Derived.Test.YtkpligcifakmjaaGreatDoorFrom
import Derived.Maps.RangeWalk
namespace Go.Proofs
open Go.RowKit
open Go.Lib (byteCells strCells)

/-- In the block behind w lies the box of a value. -/
def OneIn (w W : World) (x : Val) : Prop := W.heap[w.heap.size]? = some (.cells #[.int .i64 x.k, .int .i64 x.n, .string x.s] 23) ∧ Below w.heap.size w W ∧ w.heap.size < W.heap.size

theorem OneIn.start (w : World) (x : Val) : OneIn w (w.alloc (.cells #[.int .i64 x.k, .int .i64 x.n, .string x.s] 23)) x :=
  ⟨heap_alloc_new _ _, (Below.refl _ _).alloc (Nat.le_refl _) _, by rw [alloc_one]; omega⟩

theorem OneIn.next {w W W' : World} {x : Val} (h : OneIn w W x) (hb : Below W.heap.size W W') : OneIn w W' x := by
  obtain ⟨h1, h2, h3⟩ := h
  have := hb.size
  exact ⟨(hb.block _ h3).trans h1, h2.trans (hb.mono (Nat.le_of_lt h3)), by omega⟩

theorem OneIn.drew {w W : World} {x : Val} (h : OneIn w W x) : OneIn w W.drew x := ⟨h.1, h.2.1.drew, h.2.2⟩

theorem OneIn.setN {w W : World} {x : Val} (h : OneIn w W x) (n : Int) : OneIn w (W.setCell ⟨w.heap.size, 1, none⟩ (.int .i64 n)) ⟨x.k, n, x.s⟩ :=
  ⟨block_set (i := 1) (v := .int .i64 n) h.1, h.2.1.setCell (p := ⟨w.heap.size, 1, none⟩) (Nat.le_refl _) _, by rw [size_set]; exact h.2.2⟩

theorem OneIn.setS {w W : World} {x : Val} (h : OneIn w W x) (s : ByteArray) : OneIn w (W.setCell ⟨w.heap.size, 2, none⟩ (.string s)) ⟨x.k, x.n, s⟩ :=
  ⟨block_set (i := 2) (v := .string s) h.1, h.2.1.setCell (p := ⟨w.heap.size, 2, none⟩) (Nat.le_refl _) _, by rw [size_set]; exact h.2.2⟩

theorem OneIn.cells {w W : World} {x : Val} (h : OneIn w W x) :
    (W.cell? ⟨w.heap.size, 0, none⟩ = some (.int .i64 x.k) ∧ W.cell? ⟨w.heap.size, 1, none⟩ = some (.int .i64 x.n) ∧ W.cell? ⟨w.heap.size, 2, none⟩ = some (.string x.s)) ∧
    (W.frozen? ⟨w.heap.size, 0, none⟩ = false ∧ W.frozen? ⟨w.heap.size, 1, none⟩ = false ∧ W.frozen? ⟨w.heap.size, 2, none⟩ = false) := by
  obtain ⟨h1, h2, h3⟩ := h
  refine ⟨⟨?_, ?_, ?_⟩, ?_, ?_, ?_⟩ <;> simp [World.cell?, World.frozen?, h1]

set_option maxRecDepth 20000 in
set_option maxHeartbeats 3000000 in
theorem Tryz.unkeyed (L : List UInt8) (ad : Option Addr) (ca : Nat) (w : World) (h : BytesAt w w.heap.size ad L) (la : L.length < 1000000000) (hca : L.length ≤ ca) :
    Calls Tryz.prog 29 #[.slice ad L.length ca] w (MadeV (unk L) w) := by
  obtain ⟨i23, hi23, hz23, hs23, hb23⟩ := info_parts Tryz.info23'
  go_enter Tryz.func29, Tryz.ntmps29
  go_wp2_with fail
  go_loopw [0, 4] (fun b o wr => ∃ (R : List UInt8) (acc : List Val) (ad : Option Addr) (ca : Nat), b = .slice ad R.length ca ∧ BytesAt wr w.heap.size ad R ∧ R.length ≤ ca ∧ R.length + acc.length ≤ L.length ∧ Own w.heap.size 23 3 o acc.length (valCells acc) w wr ∧ after acc (unk R) = unk L) (fun b _ _ => match b with | .slice _ n _ => n | _ => 0)
  case atStart => exact ⟨L, [], ad, ca, rfl, h, hca, Nat.le_refl _, Own.start w 23 3, after_nil L⟩
  case round =>
    obtain ⟨R, acc, ad1, ca1, rfl, hR, hca1, hlen, hO, hU⟩ := hrel
    have HU := Lib.hid hU
    clear hU
    cases R with
    | nil =>
      go_wp2_with fail
      go_ret2
      refine ⟨?_, ?_, ?_⟩
      rotate_left
      · rw [← HU.out, after_end]; exact hO
      · rw [← HU.out, after_end]; rfl
    | cons c r =>
      simp only [List.length_cons] at hca1 hlen
      obtain ⟨p, o, rfl, hpN, c0⟩ := hR 0 (by simp)
      have hp : p < wr.heap.size := Nat.lt_of_lt_of_le hpN hO.2.2
      simp only [List.getElem_cons_zero, Nat.add_zero] at c0
      have hT : OneIn wr (wr.alloc (.cells #[.int .i64 c.toNat, .int .i64 0, .string ⟨#[]⟩] 23)) ⟨c.toNat, 0, ⟨#[]⟩⟩ := OneIn.start wr ⟨c.toNat, 0, ⟨#[]⟩⟩
      have hc1 : (0 : Int) ≤ c.toNat := by omega
      have hc2 : (c.toNat : Int) ≤ 255 := by have := c.toNat_lt; omega
      have hal : acc.length + 1 ≤ 1000000000 := by omega
      go_upto_region 5 with fail
      generalize wr.alloc (.cells #[.int .i64 c.toNat, .int .i64 0, .string ⟨#[]⟩] 23) = W at hT ⊢
      obtain ⟨⟨d0, d1, d2⟩, f0, f1, f2⟩ := hT.cells
      by_cases h4 : 4 < c.toNat
      · have k0 : ((c.toNat : Int) == 0) = false := by simp; omega
        have k1 : ((c.toNat : Int) == 1) = false := by simp; omega
        have k2 : ((c.toNat : Int) == 2) = false := by simp; omega
        have k3 : ((c.toNat : Int) == 3) = false := by simp; omega
        have k4 : ((c.toNat : Int) == 4) = false := by simp; omega
        have hE : after acc (unk (c :: r)) = ([], 4) := after_err acc (by unfold dec; rw [if_pos h4]) (by decide)
        have HE := Lib.hid hE
        clear hE
        go_wp2_with fail
        go_ret2
        refine ⟨.slice none 0 0, ?_, ?_⟩
        · rw [← HU.out, HE.out]; exact ⟨World.ownsRow_nil _ _ _ _, (hO.call hT.2.1).2.1, (hO.call hT.2.1).2.2⟩
        · rw [← HU.out, HE.out]; rfl
      · by_cases h0 : c.toNat = 0
        · have hd : dec c r = .ok Val.zero 1 := by unfold dec; rw [if_neg h4, if_pos h0]
          have hE := Lib.hid (after_ok acc hd)
          have hff : (faultN 0 0 0 ⟨#[]⟩ != 0) = false := by rw [fine_fault]; simp [Val.fine, formB, rangeB, printB]; decide
          simp only [h0] at d0 hT
          clear hd
          go_upto_region 28 with (first | (go_at_call 76; refine (Tryz.anyFault _ _ _ (Nat.zero_le _) _).mono ?_; rintro e w3 ⟨rfl, hb3⟩; have hT3 := hT.next hb3; obtain ⟨⟨d0, d1, d2⟩, f0, f1, f2⟩ := hT3.cells))
          have hOc := hO.call hT3.2.1
          have hk1 : 1 ≤ (r.length : Int) + 1 := by omega
          have hOd := hOc.drew.alloc (.cells #[.int .i64 0, .int .i64 0, .string ⟨#[]⟩] 23)
          go_region_law (refine step_append_val ?_ (.tmp 64) (.tmp 66) 39 ?_ w.heap.size 23 i23 _ Tryz.underlying39 hi23 hz23 rfl hs23 hb23 _ _ _ w hOd ⟨0, 0, ⟨#[]⟩⟩ hal ?_ ?_ ?_; rfl; rfl; rfl; exact ⟨_, rfl, heap_alloc_new _ _⟩; intro v3 w3 hO3)
          have hB1 : BytesAt wr w.heap.size (if ca1 = 1 then some ⟨p, o, none⟩ else some ⟨p, o + 1, none⟩) ((c :: r).drop 1) := hR.behind (fun hh => by rw [if_neg (by simp only [List.length_cons] at hh; omega)])
          generalize (if ca1 = 1 then some (⟨p, o, none⟩ : Addr) else some ⟨p, o + 1, none⟩) = ad2 at hB1 ⊢
          clear h0 hff d0 d1 d2 f0 f1 f2
          go_wp2_with fail
          exact ⟨_, _, _, _, ⟨(c :: r).drop 1, acc ++ [Val.zero], ad2, ca1 - 1, rfl, hB1.via hO.2.1 hO3.2.1, by simp; omega, by simp; omega, hO3.cast (by simp) (valCells_snoc acc Val.zero).symm, by rw [← hE.out]; exact HU.out⟩, rfl, rfl, rfl, rfl⟩
        · by_cases h3 : c.toNat = 3
          · simp only [h3] at d0 hT
            have hB1 : BytesAt wr w.heap.size (if ca1 = 1 then some ⟨p, o, none⟩ else some ⟨p, o + 1, none⟩) ((c :: r).drop 1) := hR.behind (fun hh => by rw [if_neg (by simp only [List.length_cons] at hh; omega)])
            have hBW : BytesAt W W.heap.size (if ca1 = 1 then some ⟨p, o, none⟩ else some ⟨p, o + 1, none⟩) r := by
              intro i hi
              obtain ⟨p', o', h1, h2, h5⟩ := hB1 i hi
              have h6 : p' < wr.heap.size := Nat.lt_of_lt_of_le h2 hO.2.2
              exact ⟨p', o', h1, Nat.lt_of_lt_of_le h6 hT.2.1.size, (hT.2.1.cell h6).trans h5⟩
            have hib := idx0_bounds r
            by_cases hi : idx0 r < 0
            · have hi1 : idx0 r = -1 := by omega
              have hix : ∀ W' : World, BytesAt W' W'.heap.size (if ca1 = 1 then some ⟨p, o, none⟩ else some ⟨p, o + 1, none⟩) r → Calls Tryz.prog 75 #[.slice (if ca1 = 1 then some ⟨p, o, none⟩ else some ⟨p, o + 1, none⟩) r.length (ca1 - 1), .int .u8 0] W' fun e w' => e = .returned (.int .i64 (-1)) ∧ W' = w' := fun W' hB' => (Tryz.index r _ (ca1 - 1) W' hB' (by omega)).mono fun e w' ⟨he, hw⟩ => ⟨by rw [he, hi1], hw.symm⟩
              have hix := Lib.hid hix
              have hE : after acc (unk (c :: r)) = ([], 15) := after_err acc (by unfold dec; rw [if_neg h4, if_neg h0, if_pos h3, if_pos hi]) (by decide)
              have HE := Lib.hid hE
              clear hE hi1
              go_wp2_with (first | (go_at_call 75; refine (hix.out _ hBW).mono ?_; rintro e w' ⟨rfl, rfl⟩))
              all_goals
                go_ret2
                refine ⟨.slice none 0 0, ?_, ?_⟩
                · rw [← HU.out, HE.out]; exact ⟨World.ownsRow_nil _ _ _ _, (hO.call hT.2.1).2.1, (hO.call hT.2.1).2.2⟩
                · rw [← HU.out, HE.out]; rfl
            · obtain ⟨n, hn⟩ := Int.eq_ofNat_of_zero_le (show 0 ≤ idx0 r by omega)
              have hnl : n < r.length := by omega
              have hne : ¬ ca1 = 1 := by omega
              rw [if_neg hne] at hB1 hBW
              have hix : ∀ W' : World, BytesAt W' W'.heap.size (some ⟨p, o + 1, none⟩) r → Calls Tryz.prog 75 #[.slice (some ⟨p, o + 1, none⟩) r.length (ca1 - 1), .int .u8 0] W' fun e w' => e = .returned (.int .i64 (n : Int)) ∧ W' = w' := fun W' hB' => (Tryz.index r _ (ca1 - 1) W' hB' (by omega)).mono fun e w' ⟨he, hw⟩ => ⟨by rw [he, hn], hw.symm⟩
              have hix := Lib.hid hix
              have HN := Lib.hid hn
              clear hn hi hib
              have hnca : n + 2 ≤ ca1 := by omega
              have hconv := (hBW.part (m := 0) (n := n) (sp := some ⟨p, o + 1, none⟩) (by omega) (fun _ => rfl)).string (ca1 - 1)
              simp only [List.drop_zero, List.length_take, Nat.min_eq_left (Nat.le_of_lt hnl)] at hconv
              have hsz : (⟨(r.take n).toArray⟩ : ByteArray).size ≤ 9223372036854775807 := by
                show (r.take n).toArray.size ≤ _
                simp only [List.size_toArray, List.length_take]
                omega
              go_upto_region 26 with (first | (go_at_call 75; refine (hix.out _ hBW).mono ?_; rintro e w' ⟨rfl, rfl⟩))
              have hT2 := hT.setS ⟨(r.take n).toArray⟩
              clear d0 d1 d2 f0 f1 f2 hconv hBW
              generalize W.setCell ⟨wr.heap.size, 2, none⟩ (.string ⟨(r.take n).toArray⟩) = W2 at hT2 ⊢
              obtain ⟨⟨d0, d1, d2⟩, f0, f1, f2⟩ := hT2.cells
              have hfn := fine_fault 3 0 ⟨(r.take n).toArray⟩
              by_cases hf : Val.fine ⟨3, 0, ⟨(r.take n).toArray⟩⟩ = true
              · have hd : dec c r = .ok ⟨3, 0, ⟨(r.take n).toArray⟩⟩ (n + 2) := by
                  unfold dec
                  rw [if_neg h4, if_neg h0, if_pos h3, HN.out, if_neg (by omega)]
                  show (if Val.fine ⟨3, 0, ⟨(r.take n).toArray⟩⟩ = true then _ else _) = _
                  rw [if_pos hf]
                  rfl
                have hE := Lib.hid (after_ok acc hd)
                have hff : (faultN 0 3 0 ⟨(r.take n).toArray⟩ != 0) = false := by rw [hfn, hf]; rfl
                clear hd hfn hf
                go_upto_region 28 with (first | (go_at_call 76; refine (Tryz.anyFault _ _ _ hsz _).mono ?_; rintro e w3 ⟨rfl, hb3⟩; have hT3 := hT2.next hb3; obtain ⟨⟨d0, d1, d2⟩, f0, f1, f2⟩ := hT3.cells))
                have hk2 : (n : Int) + 2 ≤ r.length + 1 := by omega
                have hk3 : 0 ≤ (n : Int) + 2 := by omega
                have hk4 : ((n : Int) + 2).toNat = n + 2 := by omega
                have hk5 : n + 2 ≤ r.length + 1 := by omega
                have hk6 : n + 1 ≤ r.length := by omega
                have hk7 : (n : Int) + 1 ≤ r.length := by omega
                have hk8 : (n : Int) < r.length := by omega
                have hOc := hO.call hT3.2.1
                have hOd := hOc.drew.alloc (.cells #[.int .i64 (⟨3, 0, ⟨(r.take n).toArray⟩⟩ : Val).k, .int .i64 (⟨3, 0, ⟨(r.take n).toArray⟩⟩ : Val).n, .string (⟨3, 0, ⟨(r.take n).toArray⟩⟩ : Val).s] 23)
                go_region_law (refine step_append_val ?_ (.tmp 64) (.tmp 66) 39 ?_ w.heap.size 23 i23 _ Tryz.underlying39 hi23 hz23 rfl hs23 hb23 _ _ _ w hOd (⟨3, 0, ⟨(r.take n).toArray⟩⟩ : Val) hal ?_ ?_ ?_; rfl; rfl; rfl; exact ⟨_, rfl, heap_alloc_new _ _⟩; intro v3 w3 hO3)
                have hB1 : BytesAt wr w.heap.size (if ca1 = n + 2 then some ⟨p, o, none⟩ else some ⟨p, o + (n + 2), none⟩) ((c :: r).drop (n + 2)) := hR.behind (fun hh => by rw [if_neg (by simp only [List.length_cons] at hh; omega)])
                generalize (if ca1 = n + 2 then some (⟨p, o, none⟩ : Addr) else some ⟨p, o + (n + 2), none⟩) = ad2 at hB1 ⊢
                clear d0 d1 d2 f0 f1 f2
                go_wp2_with fail
                refine ⟨⟨.slice ad2 (r.length - (n + 1)) (ca1 - (n + 2)), _, _, _, ⟨(c :: r).drop (n + 2), acc ++ [(⟨3, 0, ⟨(r.take n).toArray⟩⟩ : Val)], ad2, ca1 - (n + 2), by rw [List.length_drop, List.length_cons, show r.length + 1 - (n + 2) = r.length - (n + 1) by omega], hB1.via hO.2.1 hO3.2.1, by simp; omega, by simp; omega, hO3.cast (by simp) (valCells_snoc acc (⟨3, 0, ⟨(r.take n).toArray⟩⟩ : Val)).symm, by rw [← hE.out]; exact HU.out⟩, rfl, rfl, rfl, rfl⟩, by omega⟩
              · have hff : (faultN 0 3 0 ⟨(r.take n).toArray⟩ != 0) = true := by rw [hfn]; simpa using hf
                have hE : after acc (unk (c :: r)) = ([], 1) := after_err acc (by
                  unfold dec
                  rw [if_neg h4, if_neg h0, if_pos h3, HN.out, if_neg (by omega)]
                  show (if Val.fine ⟨3, 0, ⟨(r.take n).toArray⟩⟩ = true then _ else _) = _
                  rw [if_neg hf]) (by decide)
                have HE := Lib.hid hE
                clear hE hfn hf
                go_wp2_with (first | (go_at_call 76; refine (Tryz.anyFault _ _ _ hsz _).mono ?_; rintro e w3 ⟨rfl, hb3⟩; have hT3 := hT2.next hb3; obtain ⟨⟨d0, d1, d2⟩, f0, f1, f2⟩ := hT3.cells))
                go_ret2
                refine ⟨.slice none 0 0, ?_, ?_⟩
                · rw [← HU.out, HE.out]; exact ⟨World.ownsRow_nil _ _ _ _, (hO.call hT3.2.1).2.1, (hO.call hT3.2.1).2.2⟩
                · rw [← HU.out, HE.out]; rfl
          · have k0 : ((c.toNat : Int) == 0) = false := by simp; omega
            have k3 : ((c.toNat : Int) == 3) = false := by simp; omega
            have key : ((c.toNat : Int) == 1) = true ∨ (((c.toNat : Int) == 1) = false ∧ ((c.toNat : Int) == 2) = true) ∨ (((c.toNat : Int) == 1) = false ∧ ((c.toNat : Int) == 2) = false ∧ ((c.toNat : Int) == 4) = true) := by
              simp only [beq_iff_eq, beq_eq_false_iff_ne, ne_eq]
              omega
            by_cases h8 : r.length < 8
            · have hE : after acc (unk (c :: r)) = ([], 15) := after_err acc (by unfold dec; rw [if_neg h4, if_neg h0, if_neg h3, if_pos h8]) (by decide)
              have HE := Lib.hid hE
              clear hE
              have h9 : (r.length : Int) + 1 < 9 := by omega
              rcases key with k1 | ⟨k1, k2⟩ | ⟨k1, k2, k5⟩
              all_goals
                go_wp2_with fail
                go_ret2
                refine ⟨.slice none 0 0, ?_, ?_⟩
                · rw [← HU.out, HE.out]; exact ⟨World.ownsRow_nil _ _ _ _, (hO.call hT.2.1).2.1, (hO.call hT.2.1).2.2⟩
                · rw [← HU.out, HE.out]; rfl
            · have hne : ¬ ca1 = 1 := by omega
              have h9a : 9 ≤ ca1 := by omega
              have h9b : ¬ (r.length : Int) + 1 < 9 := by omega
              have hB8 : BytesAt W w.heap.size (some ⟨p, o + 1, none⟩) (r.take 8) := ((hR.part (m := 1) (n := 8) (sp := some ⟨p, o + 1, none⟩) (by simp; omega) (fun _ => rfl)).below (hT.2.1.mono hO.2.2))
              have hl8 : (r.take 8).length = 8 := by simp; omega
              have hnv : wrap64 (IntKind.u64.wrap (numL (r.take 8) - 4611686018427387904)) = numV (r.take 8) := rfl
              have HV := Lib.hid hnv
              clear hnv
              rcases key with k1 | ⟨k1, k2⟩ | ⟨k1, k2, k5⟩
              all_goals
                go_wp2_with fail
                go_loop [7, 47] (fun m i => ∃ k : Nat, i = .int .i64 k ∧ k ≤ 8 ∧ m = .int .u64 (numL ((r.take 8).take k))) (fun _ i => 8 - (intOf i).toNat)
                case atStart => exact ⟨0, rfl, Nat.zero_le _, rfl⟩
                case round =>
                  obtain ⟨k, rfl, hk8, rfl⟩ := hrel
                  by_cases hlt : k < 8
                  · obtain ⟨p', o', he, _, c8⟩ := hB8 k (by omega)
                    simp only [Option.some.injEq, Addr.mk.injEq, and_true] at he
                    obtain ⟨rfl, rfl⟩ := he
                    have hnt : numL ((r.take 8).take (k + 1)) = numStep (numL ((r.take 8).take k)) r[k] := by
                      rw [numL_take (show k < (r.take 8).length by omega)]
                      congr 1
                      simp
                    have HN := Lib.hid hnt
                    clear hnt
                    generalize numL ((r.take 8).take k) = m at HN ⊢
                    go_wp2_with fail
                    go_round
                    case rel => exact ⟨k + 1, by go_num, by omega, by rw [HN.out, numStep]⟩
                    case measure => simp [intOf]; omega
                  · have e8 : (r.take 8).take k = r.take 8 := List.take_of_length_le (by omega)
                    rw [e8]
                    clear e8
                    go_upto_region 26 with fail
                    have hT2 := hT.setN (wrap64 (IntKind.u64.wrap (numL (r.take 8) - 4611686018427387904)))
                    clear d0 d1 d2 f0 f1 f2 hB8
                    have hnv := HV.out
                    clear HV
                    generalize W.setCell ⟨wr.heap.size, 1, none⟩ (.int .i64 (wrap64 (IntKind.u64.wrap (numL (r.take 8) - 4611686018427387904)))) = W2 at hT2 ⊢
                    generalize wrap64 (IntKind.u64.wrap (numL (r.take 8) - 4611686018427387904)) = m at hT2 hnv ⊢
                    have HNV := Lib.hid hnv
                    clear hnv
                    obtain ⟨⟨d0, d1, d2⟩, f0, f1, f2⟩ := hT2.cells
                    have hfn := fine_fault c.toNat m ⟨#[]⟩
                    by_cases hf : Val.fine ⟨c.toNat, m, ⟨#[]⟩⟩ = true
                    · have hd : dec c r = .ok ⟨c.toNat, m, ⟨#[]⟩⟩ 9 := by
                        unfold dec
                        rw [if_neg h4, if_neg h0, if_neg h3, if_neg h8, ← HNV.out, if_pos hf]
                      have hE := Lib.hid (after_ok acc hd)
                      have hff : (faultN 0 c.toNat m ⟨#[]⟩ != 0) = false := by rw [hfn, hf]; rfl
                      clear hd hfn hf
                      go_upto_region 28 with (first | (go_at_call 76; refine (Tryz.anyFault _ _ _ (Nat.zero_le _) _).mono ?_; rintro e w3 ⟨rfl, hb3⟩; have hT3 := hT2.next hb3; obtain ⟨⟨d0, d1, d2⟩, f0, f1, f2⟩ := hT3.cells))
                      have hOc := hO.call hT3.2.1
                      have hOd := hOc.drew.alloc (.cells #[.int .i64 c.toNat, .int .i64 m, .string ⟨#[]⟩] 23)
                      have hk2 : 8 ≤ r.length := by omega
                      have hk3 : 9 ≤ (r.length : Int) + 1 := by omega
                      have hk4 : 9 ≤ r.length + 1 := by omega
                      have hk5 : 8 ≤ (r.length : Int) := by omega
                      go_region_law (refine step_append_val ?_ (.tmp 64) (.tmp 66) 39 ?_ w.heap.size 23 i23 _ Tryz.underlying39 hi23 hz23 rfl hs23 hb23 _ _ _ w hOd ⟨c.toNat, m, ⟨#[]⟩⟩ hal ?_ ?_ ?_; rfl; rfl; rfl; exact ⟨_, rfl, heap_alloc_new _ _⟩; intro v3 w3 hO3)
                      have hB1 : BytesAt wr w.heap.size (if ca1 = 9 then some ⟨p, o, none⟩ else some ⟨p, o + 9, none⟩) ((c :: r).drop 9) := hR.behind (fun hh => by rw [if_neg (by simp only [List.length_cons] at hh; omega)])
                      generalize (if ca1 = 9 then some (⟨p, o, none⟩ : Addr) else some ⟨p, o + 9, none⟩) = ad2 at hB1 ⊢
                      clear d0 d1 d2 f0 f1 f2
                      go_wp2_with fail
                      refine ⟨⟨.slice ad2 (r.length - 8) (ca1 - 9), _, _, _, ⟨(c :: r).drop 9, acc ++ [(⟨(c.toNat : Int), m, ⟨#[]⟩⟩ : Val)], ad2, ca1 - 9, by rw [List.length_drop, List.length_cons, show r.length + 1 - 9 = r.length - 8 by omega], hB1.via hO.2.1 hO3.2.1, by simp; omega, by simp; omega, hO3.cast (by simp) (valCells_snoc acc (⟨(c.toNat : Int), m, ⟨#[]⟩⟩ : Val)).symm, by rw [← hE.out]; exact HU.out⟩, rfl, rfl, rfl, rfl⟩, by omega⟩
                    · have hff : (faultN 0 c.toNat m ⟨#[]⟩ != 0) = true := by rw [hfn]; simpa using hf
                      have hE : after acc (unk (c :: r)) = ([], 1) := after_err acc (by
                        unfold dec
                        rw [if_neg h4, if_neg h0, if_neg h3, if_neg h8, ← HNV.out, if_neg hf]) (by decide)
                      have HE := Lib.hid hE
                      clear hE hfn hf
                      go_wp2_with (first | (go_at_call 76; refine (Tryz.anyFault _ _ _ (Nat.zero_le _) _).mono ?_; rintro e w3 ⟨rfl, hb3⟩; have hT3 := hT2.next hb3; obtain ⟨⟨d0, d1, d2⟩, f0, f1, f2⟩ := hT3.cells))
                      go_ret2
                      refine ⟨.slice none 0 0, ?_, ?_⟩
                      · rw [← HU.out, HE.out]; exact ⟨World.ownsRow_nil _ _ _ _, (hO.call hT3.2.1).2.1, (hO.call hT3.2.1).2.2⟩
                      · rw [← HU.out, HE.out]; rfl
end Go.Proofs
