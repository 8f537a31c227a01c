/- Of package value: the value at the beginning of a key, walked. -/
import Derived.Test.YtkpligcifakmjaaGreatDoorDec
import Derived.StillTailTactics
import Derived.IntWalk
import Derived.RegionTactic
import Derived.ChangeAlike
namespace Go.Proofs
open Go.RowKit
open Go.Lib (byteCells strCells)

theorem Tryz.indexStr (r : List UInt8) (w : World) : Calls Tryz.prog 111 #[.string ⟨r.toArray⟩, .int .u8 0] w fun e w' => e = .returned (.int .i64 (idx0 r)) ∧ w' = w :=
  Tryz.strings_IndexByte ⟨r.toArray⟩ 0 w

/-- What a call that reads a value off the beginning of bytes says. -/
def KvPost (c : UInt8) (r : List UInt8) (N : Nat) (w : World) (e : Ending) (w' : World) : Prop :=
  Below w.heap.size w w' ∧ match dec c r with
  | .err k => ∃ y : Val, e = .returned (.tuple #[y.v, .slice none 0 0, .int .i64 k])
  | .ok y n => ∃ ad ca, e = .returned (.tuple #[y.v, .slice ad (r.length + 1 - n) ca, .int .i64 0]) ∧ BytesAt w' N ad ((c :: r).drop n) ∧ r.length + 1 - n ≤ ca

theorem two_set {w W : World} {a b : Val} (h : TwoIn w W a b) (x : Val) :
    Below w.heap.size w (((W.setCell ⟨w.heap.size, 0, none⟩ (.int .i64 x.k)).setCell ⟨w.heap.size, 1, none⟩ (.int .i64 x.n)).setCell ⟨w.heap.size, 2, none⟩ (.string x.s)) := by
  refine Below.setCell (Below.setCell (Below.setCell h.2.2.1 ?_ _) ?_ _) ?_ _ <;> exact Nat.le_refl _

theorem TwoIn.sndS {w W : World} {a b : Val} (h : TwoIn w W a b) (s : ByteArray) : TwoIn w (W.setCell ⟨w.heap.size + 1, 2, none⟩ (.string s)).drew a ⟨b.k, b.n, s⟩ := by
  obtain ⟨h1, h2, h3, h4⟩ := h
  have g1 : (W.setCell ⟨w.heap.size + 1, 2, none⟩ (.string s)).heap[w.heap.size]? = _ := (block_set_ne (by omega)).trans h1
  have g2 := block_set (i := 2) (v := .string s) h2
  exact ⟨g1, g2, (h3.setCell (p := ⟨w.heap.size + 1, 2, none⟩) (Nat.le_succ _) _).drew, by show _ < (W.setCell _ _).heap.size; rw [size_set]; exact h4⟩

theorem TwoIn.sndN {w W : World} {a b : Val} (h : TwoIn w W a b) (n : Int) : TwoIn w (W.setCell ⟨w.heap.size + 1, 1, none⟩ (.int .i64 n)).drew a ⟨b.k, n, b.s⟩ := by
  obtain ⟨h1, h2, h3, h4⟩ := h
  have g1 : (W.setCell ⟨w.heap.size + 1, 1, none⟩ (.int .i64 n)).heap[w.heap.size]? = _ := (block_set_ne (by omega)).trans h1
  have g2 := block_set (i := 1) (v := .int .i64 n) h2
  exact ⟨g1, g2, (h3.setCell (p := ⟨w.heap.size + 1, 1, none⟩) (Nat.le_succ _) _).drew, by show _ < (W.setCell _ _).heap.size; rw [size_set]; exact h4⟩

set_option maxRecDepth 20000 in
set_option maxHeartbeats 2000000 in
theorem Tryz.keyValue (c : UInt8) (r : List UInt8) (ad : Option Addr) (ca : Nat) (w : World) (N : Nat) (hN : N ≤ w.heap.size) (h : BytesAt w N ad (c :: r)) (la : r.length < 1000000000) (hca : r.length < ca) :
    Calls Tryz.prog 74 #[.slice ad (r.length + 1) ca] w (KvPost c r N w) := by
  obtain ⟨p, o, rfl, hpN, c0⟩ := h 0 (by simp)
  have hp : p < w.heap.size := Nat.lt_of_lt_of_le hpN hN
  simp only [List.getElem_cons_zero, Nat.add_zero] at c0
  have hB1 : BytesAt w N (if ca = 1 then some ⟨p, o, none⟩ else some ⟨p, o + 1, none⟩) r := by
    have := h.behind (m := 1) (sp := if ca = 1 then some ⟨p, o, none⟩ else some ⟨p, o + 1, none⟩) (fun hh => by
      simp only [List.length_cons] at hh
      rw [if_neg (by omega)])
    exact this
  have hT : TwoIn w ((w.alloc (.cells #[.int .i64 0, .int .i64 0, .string ⟨#[]⟩] 23)).alloc (.cells #[.int .i64 c.toNat, .int .i64 0, .string ⟨#[]⟩] 23)) Val.zero ⟨c.toNat, 0, ⟨#[]⟩⟩ := TwoIn.start w Val.zero ⟨c.toNat, 0, ⟨#[]⟩⟩
  have hc1 : (0 : Int) ≤ c.toNat := by omega
  have hc2 : (c.toNat : Int) ≤ 255 := by have := c.toNat_lt; omega
  have hpost : ∀ e w', KvPost c r N w e w' = KvPost c r N w e w' := fun _ _ => rfl
  have hdec : dec c r = dec c r := rfl
  clear hpost hdec
  go_enter Tryz.func74, Tryz.ntmps74
  go_upto_region 12 with fail
  generalize (w.alloc (.cells #[.int .i64 0, .int .i64 0, .string ⟨#[]⟩] 23)).alloc (.cells #[.int .i64 c.toNat, .int .i64 0, .string ⟨#[]⟩] 23) = W at hT ⊢
  generalize (if ca = 1 then some (⟨p, o, none⟩ : Addr) else some ⟨p, o + 1, none⟩) = ad1 at hB1 ⊢
  have hca1 : r.length ≤ ca - 1 := by omega
  generalize ca - 1 = ca1 at hca1 ⊢
  obtain ⟨⟨z0, z1, z2⟩, ⟨d0, d1, d2⟩, ⟨f0, f1, f2⟩, g0, g1, g2⟩ := hT.cells
  by_cases h4 : 4 < c.toNat
  · have h4' : (4 : Int) < c.toNat := by omega
    have HD : dec c r = .err 4 := by unfold dec; rw [if_pos h4]
    have HD := Lib.hid HD
    go_wp2_with fail
    refine bodyPost_ret (v := .tuple #[valV c.toNat 0 ⟨#[]⟩, .slice none 0 0, .int .i64 4]) (by simp [results, Tryz.results74, go_sem, valV, z0, z1, z2]) rfl ⟨two_set hT ⟨c.toNat, 0, ⟨#[]⟩⟩, ?_⟩
    rw [HD.out]
    exact ⟨⟨c.toNat, 0, ⟨#[]⟩⟩, rfl⟩
  · by_cases h0 : c.toNat = 0
    · have HD : dec c r = .ok Val.zero 1 := by unfold dec; rw [if_neg h4, if_pos h0]
      have HD := Lib.hid HD
      simp only [h0] at d0
      go_wp2_with fail
      refine bodyPost_ret (v := .tuple #[Val.zero.v, .slice ad1 r.length ca1, .int .i64 0]) (by simp [results, Tryz.results74, go_sem, Val.zero, Val.v, valV, z0, z1, z2]) rfl ⟨two_set hT Val.zero, ?_⟩
      rw [HD.out]
      exact ⟨ad1, ca1, rfl, hB1.below ((two_set hT Val.zero).mono hN), by omega⟩
    · by_cases h3 : c.toNat = 3
      · simp only [h3] at d0
        have hconv := (hB1.below (hT.2.2.1.mono hN)).string ca1
        have hib := idx0_bounds r
        by_cases hi : idx0 r < 0
        · have HD : dec c r = .err 15 := by unfold dec; rw [if_neg h4, if_neg h0, if_pos h3, if_pos hi]
          have HD := Lib.hid HD
          go_wp2_with (first | (go_at_call 111; refine (Tryz.indexStr r _).mono ?_; rintro e w' ⟨rfl, rfl⟩))
          refine bodyPost_ret (v := .tuple #[valV 3 0 ⟨#[]⟩, .slice none 0 0, .int .i64 15]) (by simp [results, Tryz.results74, go_sem, valV, z0, z1, z2]) rfl ⟨two_set hT ⟨3, 0, ⟨#[]⟩⟩, ?_⟩
          rw [HD.out]
          exact ⟨⟨3, 0, ⟨#[]⟩⟩, rfl⟩
        · obtain ⟨n, hn⟩ := Int.eq_ofNat_of_zero_le (show 0 ≤ idx0 r by omega)
          have hnl : n < r.length := by omega
          obtain ⟨p1, o1, rfl, hp1, c1⟩ := hB1 n hnl
          have hne : ¬ ca1 = 0 := by omega
          have hconv2 := ((hB1.below (hT.2.2.1.mono hN)).part (m := 0) (n := n) (sp := some ⟨p1, o1, none⟩) (by omega) (fun _ => rfl)).string ca1
          have hB2 : BytesAt w N (if ca1 = n + 1 then some ⟨p1, o1, none⟩ else some ⟨p1, o1 + (n + 1), none⟩) (r.drop (n + 1)) := hB1.behind (fun hh => by rw [if_neg (by omega)])
          simp only [List.drop_zero, List.length_take, Nat.min_eq_left (Nat.le_of_lt hnl)] at hconv2
          have HN := Lib.hid hn
          have hidx : ∀ W' : World, Calls Tryz.prog 111 #[.string ⟨r.toArray⟩, .int .u8 0] W' fun e w' => e = .returned (.int .i64 (n : Int)) ∧ W' = w' := fun W' => (Tryz.indexStr r W').mono fun e w' ⟨he, hw⟩ => ⟨by rw [he, hn], hw.symm⟩
          have hidx := Lib.hid hidx
          clear hn hi hib
          go_upto_region 20 with (first | (go_at_call 111; refine (hidx.out _).mono ?_; rintro e w' ⟨rfl, rfl⟩))
          have hconv3 := ((hB1.below (hT.drew.2.2.1.mono hN)).part (m := 0) (n := n) (sp := some ⟨p1, o1, none⟩) (by omega) (fun _ => rfl)).string ca1
          simp only [List.drop_zero, List.length_take, Nat.min_eq_left (Nat.le_of_lt hnl)] at hconv3
          have hnca : n ≤ ca1 := by omega
          have hnl1 : n + 1 ≤ r.length := hnl
          have hs1 : IntKind.i64.wrap ((n : Int) + 1) = n + 1 := IntWalk.i64_in _ (by omega)
          have hs2 : ((n : Int) + 1).toNat = n + 1 := by omega
          have hs3 : 0 ≤ (n : Int) + 1 := by omega
          have hs4 : (n : Int) + 1 ≤ r.length := by omega
          go_region
          go_upto_region 21 with fail
          have hT2 := hT.sndS ⟨(r.take n).toArray⟩
          clear z0 z1 z2 d0 d1 d2 f0 f1 f2 g0 g1 g2 hconv hconv2 hconv3 hs1 hs2 hs3 hs4
          generalize (W.setCell ⟨w.heap.size + 1, 2, none⟩ (.string ⟨(r.take n).toArray⟩)).drew = W2 at hT2 ⊢
          generalize (if ca1 = n + 1 then some (⟨p1, o1, none⟩ : Addr) else some ⟨p1, o1 + (n + 1), none⟩) = ad2 at hB2 ⊢
          have hsz : (⟨(r.take n).toArray⟩ : ByteArray).size ≤ 9223372036854775807 := by
            show (r.take n).toArray.size ≤ _
            simp only [List.size_toArray, List.length_take]
            omega
          obtain ⟨⟨z0, z1, z2⟩, ⟨d0, d1, d2⟩, ⟨f0, f1, f2⟩, g0, g1, g2⟩ := hT2.cells
          by_cases hf : Val.fine ⟨3, 0, ⟨(r.take n).toArray⟩⟩ = true
          · have HD : dec c r = .ok (textV (r.take n)) (n + 2) := by
              unfold dec
              rw [if_neg h4, if_neg h0, if_pos h3, HN.out, if_neg (by omega)]
              show (if Val.fine ⟨3, 0, ⟨(r.take n).toArray⟩⟩ = true then _ else _) = _
              rw [if_pos hf]
              rfl
            have HD := Lib.hid HD
            go_wp2_with (first | (go_at_call 108; refine (Tryz.right _ _ _ hsz _).mono ?_; rintro e w3 ⟨rfl, hb3⟩; have hT3 := TwoIn.next (a := Val.zero) (b := ⟨c.toNat, 0, ⟨(r.take n).toArray⟩⟩) hT2 hb3; obtain ⟨⟨z0, z1, z2⟩, ⟨d0, d1, d2⟩, ⟨f0, f1, f2⟩, g0, g1, g2⟩ := hT3.cells))
            refine bodyPost_ret (v := .tuple #[(textV (r.take n)).v, .slice ad2 (r.length - (n + 1)) (ca1 - (n + 1)), .int .i64 0]) (by simp [results, Tryz.results74, go_sem, textV, Val.v, valV, z0, z1, z2]) rfl ⟨two_set hT3 (textV (r.take n)), ?_⟩
            rw [HD.out]
            refine ⟨ad2, ca1 - (n + 1), by rw [show r.length + 1 - (n + 2) = r.length - (n + 1) by omega], ?_, by omega⟩
            exact hB2.below ((two_set hT3 (textV (r.take n))).mono hN)
          · have HD : dec c r = .err 1 := by
              unfold dec
              rw [if_neg h4, if_neg h0, if_pos h3, HN.out, if_neg (by omega)]
              show (if Val.fine ⟨3, 0, ⟨(r.take n).toArray⟩⟩ = true then _ else _) = _
              rw [if_neg hf]
            have HD := Lib.hid HD
            have hff : Val.fine ⟨3, 0, ⟨(r.take n).toArray⟩⟩ = false := by simpa using hf
            clear hf
            go_wp2_with (first | (go_at_call 108; refine (Tryz.right _ _ _ hsz _).mono ?_; rintro e w3 ⟨rfl, hb3⟩; have hT3 := TwoIn.next (a := Val.zero) (b := ⟨c.toNat, 0, ⟨(r.take n).toArray⟩⟩) hT2 hb3; obtain ⟨⟨z0, z1, z2⟩, ⟨d0, d1, d2⟩, ⟨f0, f1, f2⟩, g0, g1, g2⟩ := hT3.cells))
            refine bodyPost_ret (v := .tuple #[(textV (r.take n)).v, .slice none 0 0, .int .i64 1]) (by simp [results, Tryz.results74, go_sem, textV, Val.v, valV, z0, z1, z2]) rfl ⟨two_set hT3 (textV (r.take n)), ?_⟩
            rw [HD.out]
            exact ⟨textV (r.take n), rfl⟩
      · have k0 : ((c.toNat : Int) == 0) = false := by simp; omega
        have k3 : ((c.toNat : Int) == 3) = false := by simp; omega
        have k4 : ¬ (4 : Int) < c.toNat := by omega
        by_cases h8 : r.length < 8
        · have HD : dec c r = .err 15 := by unfold dec; rw [if_neg h4, if_neg h0, if_neg h3, if_pos h8]
          have HD := Lib.hid HD
          go_wp2_with fail
          refine bodyPost_ret (v := .tuple #[valV c.toNat 0 ⟨#[]⟩, .slice none 0 0, .int .i64 15]) (by simp [results, Tryz.results74, go_sem, valV, z0, z1, z2]) rfl ⟨two_set hT ⟨c.toNat, 0, ⟨#[]⟩⟩, ?_⟩
          rw [HD.out]
          exact ⟨⟨c.toNat, 0, ⟨#[]⟩⟩, rfl⟩
        · obtain ⟨p1, o1, rfl, hp1, _⟩ := hB1 0 (by omega)
          have h8a : 8 ≤ ca1 := by omega
          have h8b : 8 ≤ r.length := by omega
          have hB8 : BytesAt w N (some ⟨p1, o1, none⟩) (r.take 8) := hB1.part (m := 0) (n := 8) (by omega) (fun _ => rfl)
          have hB2 : BytesAt w N (if ca1 = 8 then some ⟨p1, o1, none⟩ else some ⟨p1, o1 + 8, none⟩) (r.drop 8) := hB1.behind (fun hh => by rw [if_neg (by omega)])
          have hl8 : (r.take 8).length = 8 := by simp; omega
          have hB8 := hB8.below (hT.2.2.1.mono hN)
          clear hB1
          go_wp2_with fail
          go_loop [7, 24] (fun m i => ∃ k : Nat, i = .int .i64 k ∧ k ≤ 8 ∧ m = .int .u64 (numL ((r.take 8).take k))) (fun _ i => 8 - (intOf i).toNat)
          case atStart => exact ⟨0, rfl, Nat.zero_le _, rfl⟩
          case round =>
            obtain ⟨k, rfl, hk8, rfl⟩ := hrel
            by_cases hlt : k < 8
            · obtain ⟨p', o', he, _, c8⟩ := hB8 k (by omega)
              simp only [Option.some.injEq, Addr.mk.injEq, and_true] at he
              obtain ⟨rfl, rfl⟩ := he
              have hnt : numL ((r.take 8).take (k + 1)) = numStep (numL ((r.take 8).take k)) r[k] := by
                rw [numL_take (show k < (r.take 8).length by omega)]
                congr 1
                simp
              have HN := Lib.hid hnt
              clear hnt
              generalize numL ((r.take 8).take k) = m at HN ⊢
              go_wp2_with fail
              go_round
              case rel => exact ⟨k + 1, by go_num, by omega, by rw [HN.out, numStep]⟩
              case measure => simp [intOf]; omega
            · have e8 : (r.take 8).take k = r.take 8 := List.take_of_length_le (by omega)
              rw [e8]
              clear e8
              go_upto_region 11 with fail
              go_region
              go_upto_region 21 with fail
              have hT2 := hT.sndN (wrap64 (IntKind.u64.wrap (numL (r.take 8) - 4611686018427387904)))
              have hnv : numV (r.take 8) = wrap64 (IntKind.u64.wrap (numL (r.take 8) - 4611686018427387904)) := rfl
              clear z0 z1 z2 d0 d1 d2 f0 f1 f2 g0 g1 g2 hB8
              generalize (W.setCell ⟨w.heap.size + 1, 1, none⟩ (.int .i64 (wrap64 (IntKind.u64.wrap (numL (r.take 8) - 4611686018427387904))))).drew = W2 at hT2 ⊢
              generalize wrap64 (IntKind.u64.wrap (numL (r.take 8) - 4611686018427387904)) = m at hT2 hnv ⊢
              generalize (if ca1 = 8 then some (⟨p1, o1, none⟩ : Addr) else some ⟨p1, o1 + 8, none⟩) = ad2 at hB2 ⊢
              have HNV := Lib.hid hnv
              clear hnv
              obtain ⟨⟨z0, z1, z2⟩, ⟨d0, d1, d2⟩, ⟨f0, f1, f2⟩, g0, g1, g2⟩ := hT2.cells
              by_cases hf : Val.fine ⟨c.toNat, m, ⟨#[]⟩⟩ = true
              · have HD : dec c r = .ok ⟨c.toNat, m, ⟨#[]⟩⟩ 9 := by
                  unfold dec
                  rw [if_neg h4, if_neg h0, if_neg h3, if_neg h8, HNV.out, if_pos hf]
                have HD := Lib.hid HD
                go_wp2_with (first | (go_at_call 108; refine (Tryz.right _ _ _ (Nat.zero_le _) _).mono ?_; rintro e w3 ⟨rfl, hb3⟩; have hT3 := TwoIn.next (a := Val.zero) (b := ⟨c.toNat, m, ⟨#[]⟩⟩) hT2 hb3; obtain ⟨⟨z0, z1, z2⟩, ⟨d0, d1, d2⟩, ⟨f0, f1, f2⟩, g0, g1, g2⟩ := hT3.cells))
                refine bodyPost_ret (v := .tuple #[valV c.toNat m ⟨#[]⟩, .slice ad2 (r.length - 8) (ca1 - 8), .int .i64 0]) (by simp [results, Tryz.results74, go_sem, valV, z0, z1, z2]) rfl ⟨two_set hT3 ⟨c.toNat, m, ⟨#[]⟩⟩, ?_⟩
                rw [HD.out]
                refine ⟨ad2, ca1 - 8, by rw [show r.length + 1 - 9 = r.length - 8 by omega]; rfl, ?_, by omega⟩
                exact hB2.below ((two_set hT3 ⟨c.toNat, m, ⟨#[]⟩⟩).mono hN)
              · have HD : dec c r = .err 1 := by
                  unfold dec
                  rw [if_neg h4, if_neg h0, if_neg h3, if_neg h8, HNV.out, if_neg hf]
                have HD := Lib.hid HD
                have hff : Val.fine ⟨c.toNat, m, ⟨#[]⟩⟩ = false := by simpa using hf
                clear hf
                go_wp2_with (first | (go_at_call 108; refine (Tryz.right _ _ _ (Nat.zero_le _) _).mono ?_; rintro e w3 ⟨rfl, hb3⟩; have hT3 := TwoIn.next (a := Val.zero) (b := ⟨c.toNat, m, ⟨#[]⟩⟩) hT2 hb3; obtain ⟨⟨z0, z1, z2⟩, ⟨d0, d1, d2⟩, ⟨f0, f1, f2⟩, g0, g1, g2⟩ := hT3.cells))
                refine bodyPost_ret (v := .tuple #[valV c.toNat m ⟨#[]⟩, .slice none 0 0, .int .i64 1]) (by simp [results, Tryz.results74, go_sem, valV, z0, z1, z2]) rfl ⟨two_set hT3 ⟨c.toNat, m, ⟨#[]⟩⟩, ?_⟩
                rw [HD.out]
                exact ⟨⟨c.toNat, m, ⟨#[]⟩⟩, rfl⟩
end Go.Proofs
