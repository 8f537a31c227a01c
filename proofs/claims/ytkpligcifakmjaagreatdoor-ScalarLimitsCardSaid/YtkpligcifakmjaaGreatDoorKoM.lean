/- KindOf and ScalarKind, and that they answer alike. The condition: the library's table of white space. -/
import Derived.Test.YtkpligcifakmjaaGreatDoorScal
namespace Go.Proofs
open Go.RowKit Go.Ke

def koBy (f : Node → List Int → Int × Int) (ps : List Int) (e : Ex) : Int × Int :=
  if !(ps.all fun c => inB c 1 4) then (0, 4) else if !(sizesT e 1 0).1 then (0, 2) else foldT f e

theorem allIn_step {l : List Int} {k : Nat} (h : k < l.length) : ((l.drop k).all fun c => inB c 1 4) = (inB l[k] 1 4 && ((l.drop (k + 1)).all fun c => inB c 1 4)) := by
  rw [List.drop_eq_getElem_cons h]; rfl

set_option maxRecDepth 20000 in
set_option maxHeartbeats 1000000 in
theorem Tryz.kindOf (d : Nat) (e : Ex) (ad : Option Addr) (cap N : Nat) (cs : List Col) (ps : List Int) (cad pad : Option Addr) (cc pc : Nat) (w : World) (h : ExIs d w N ad cap e) (hcs : ColsAt w N cad cs) (hps : IntsAt w N pad ps) (hN : N ≤ w.heap.size)
    (hcl : cs.length ≤ 1000000) (hpl : ps.length ≤ 1000000) (hpk : (ps.all fun c => inB c 1 4) = true → ∀ q ∈ ps, 0 ≤ q ∧ q ≤ 4) (hck : ∀ q ∈ cs, 0 ≤ q.kind ∧ q.kind ≤ 4) (hJ : spaceTab w.heap.size w) :
    Calls Tryz.prog 36 #[e.v ad cap, .slice cad cs.length cc, .slice pad ps.length pc] w fun r w' => r = .returned (.tuple #[.int .i64 (koBy (nodeV cs ps) ps e).1, .int .i64 (koBy (nodeV cs ps) ps e).2]) ∧ Below w.heap.size w w' := by
  have hw0 : Below w.heap.size w (w.alloc (.cells (e.node.cells (.slice ad e.args.length cap)) 57)) := (Below.refl _ _).alloc (Nat.le_refl _) _
  have hB0 : Box (w.alloc (.cells (e.node.cells (.slice ad e.args.length cap)) 57)) w.heap.size e.node (.slice ad e.args.length cap) := Box.new _ _ _
  have hs0 := ex_alloc_size w (.cells (e.node.cells (.slice ad e.args.length cap)) 57)
  unfold Ex.v Node.v
  go_enter Tryz.func36, Tryz.ntmps36
  go_upto_region 1 with fail
  generalize w.alloc (.cells (e.node.cells (.slice ad e.args.length cap)) 57) = W1 at hB0 hw0 hs0 ⊢
  replace hs0 : w.heap.size < W1.heap.size := by omega
  go_wp2_with fail
  go_loop [12] (fun i => ∃ k : Nat, i = .int .i64 k ∧ k ≤ ps.length ∧ Hid (((ps.drop k).all fun c => inB c 1 4) = (ps.all fun c => inB c 1 4))) (fun i => ps.length - (intOf i).toNat)
  case atStart => exact ⟨0, rfl, Nat.zero_le _, Lib.hid rfl⟩
  case round =>
    obtain ⟨k, rfl, hk, hsp⟩ := hrel
    by_cases hlt : k < ps.length
    · obtain ⟨p, o, rfl, hp, d0, _, _⟩ := (hps.below (hw0.mono hN)) k hlt
      have hst := allIn_step hlt
      rw [hsp.out] at hst
      have hk1 := Tryz.within ps[k] 1 4 W1
      generalize ps[k] = c at *
      generalize hu : inB c 1 4 = u at *
      cases u with
      | false =>
        have hspec : koBy (nodeV cs ps) ps e = (0, 4) := by unfold koBy; rw [hst]; rfl
        replace hspec := Lib.hid hspec
        clear hsp hst hpk
        go_wp2_with (first | (go_at_call 48; refine hk1.mono ?_; rintro r w2 ⟨rfl, rfl⟩))
        go_ret2
        rw [hspec.out]
        exact ⟨rfl, hw0⟩
      | true =>
        replace hst := Lib.hid (hst.trans (Bool.true_and _)).symm
        clear hsp hpk
        go_wp2_with (first | (go_at_call 48; refine hk1.mono ?_; rintro r w2 ⟨rfl, rfl⟩))
        go_round
        case rel => exact ⟨k + 1, by go_num, by omega, hst⟩
        case measure => simp [intOf]; omega
    · have hall := hsp.out
      rw [List.drop_of_length_le (by omega)] at hall
      have hpk2 := hpk hall.symm
      have hsm := Tryz.small d e ad cap N W1 (h.below (hw0.mono hN)) (Nat.le_trans hN hw0.size)
      have hJ1 : spaceTab W1.heap.size W1 := Lib.tabBelow_of_tabIs (hJ.on hw0).here
      obtain ⟨c0, c1, c2, c3, c4, c5, c6, c7, c8, c9, c10, c11, c12⟩ := hB0.is
      have hkd := fun (W : World) (hb : Below w.heap.size w W) => Tryz.kind cs ps cad pad cc pc N hcl hpl hpk2 hck d e ad cap W (h.below (hb.mono hN)) (hcs.below (hb.mono hN)) (hps.below (hb.mono hN)) (Nat.le_trans hN hb.size) (Lib.tabBelow_of_tabIs (hJ.on hb).here)
      unfold Ex.v Node.v at hsm hkd
      cases hsz : (sizesT e 1 0).1 with
      | false =>
        have hspec : koBy (nodeV cs ps) ps e = (0, 2) := by unfold koBy; rw [← hall, hsz]; rfl
        replace hspec := Lib.hid hspec
        rw [hsz] at hsm
        clear hsz hall hpk hsp
        go_wp2_with (first | (go_at_call 81; refine hsm.mono ?_; rintro r w2 ⟨rfl, hb2⟩))
        go_ret2
        rw [hspec.out]
        exact ⟨rfl, below_next hw0 hb2⟩
      | true =>
        have hspec : koBy (nodeV cs ps) ps e = foldT (nodeV cs ps) e := by unfold koBy; rw [← hall, hsz]; rfl
        replace hspec := Lib.hid hspec
        rw [hsz] at hsm
        clear hsz hall hpk hsp
        go_wp2_with (first
          | (go_at_call 81; refine hsm.mono ?_; rintro r w2 ⟨rfl, hb2⟩; have hw2 := below_next hw0 hb2; have hB2 := hB0.next hb2; obtain ⟨c0, c1, c2, c3, c4, c5, c6, c7, c8, c9, c10, c11, c12⟩ := hB2.is)
          | (go_at_call 82; refine (hkd _ (hw2.alloc (by omega) _)).mono ?_; rintro r w4 ⟨rfl, hb4⟩)
          | (go_at_call 82; refine (hkd _ hw2).mono ?_; rintro r w4 ⟨rfl, hb4⟩))
        go_ret2
        rw [hspec.out]
        exact ⟨rfl, below_next (by first | exact hw2 | exact hw2.alloc (by omega) _) hb4⟩

set_option maxRecDepth 20000 in
set_option maxHeartbeats 1000000 in
theorem Tryz.scalarKind (d : Nat) (e : Ex) (ad : Option Addr) (cap N : Nat) (cs : List Col) (ps : List Int) (cad pad : Option Addr) (cc pc : Nat) (w : World) (h : ExIs d w N ad cap e) (hcs : ColsAt w N cad cs) (hps : IntsAt w N pad ps) (hN : N ≤ w.heap.size)
    (hcl : cs.length ≤ 1000000) (hpl : ps.length ≤ 1000000) (hpk : (ps.all fun c => inB c 1 4) = true → ∀ q ∈ ps, 0 ≤ q ∧ q ≤ 4) (hck : ∀ q ∈ cs, 0 ≤ q.kind ∧ q.kind ≤ 4) (hcnt : countT e ≤ 1000000000) (hJ : spaceTab w.heap.size w) :
    Calls Tryz.prog 37 #[e.v ad cap, .slice cad cs.length cc, .slice pad ps.length pc] w fun r w' => r = .returned (.tuple #[.int .i64 (koBy (nodeR cs ps) ps e).1, .int .i64 (koBy (nodeR cs ps) ps e).2]) ∧ Below w.heap.size w w' := by
  have hw0 : Below w.heap.size w (w.alloc (.cells (e.node.cells (.slice ad e.args.length cap)) 57)) := (Below.refl _ _).alloc (Nat.le_refl _) _
  have hB0 : Box (w.alloc (.cells (e.node.cells (.slice ad e.args.length cap)) 57)) w.heap.size e.node (.slice ad e.args.length cap) := Box.new _ _ _
  have hs0 := ex_alloc_size w (.cells (e.node.cells (.slice ad e.args.length cap)) 57)
  unfold Ex.v Node.v
  go_enter Tryz.func37, Tryz.ntmps37
  go_upto_region 1 with fail
  generalize w.alloc (.cells (e.node.cells (.slice ad e.args.length cap)) 57) = W1 at hB0 hw0 hs0 ⊢
  replace hs0 : w.heap.size < W1.heap.size := by omega
  have hcb := Tryz.containsBad ps pad pc N W1 (hps.below (hw0.mono hN)) hpl
  have hsm := Tryz.sized d e ad cap N W1 (h.below (hw0.mono hN)) (Nat.le_trans hN hw0.size) hcnt
  obtain ⟨c0, c1, c2, c3, c4, c5, c6, c7, c8, c9, c10, c11, c12⟩ := hB0.is
  unfold Ex.v Node.v at hsm
  cases hall : (ps.all fun c => inB c 1 4) with
  | false =>
    have hspec : koBy (nodeR cs ps) ps e = (0, 4) := by unfold koBy; rw [hall]; rfl
    replace hspec := Lib.hid hspec
    rw [hall] at hcb
    clear hall hpk
    go_wp2_with (first | (go_at_call 83; refine hcb.mono ?_; rintro r w2 ⟨rfl, rfl⟩))
    go_ret2
    rw [hspec.out]
    exact ⟨rfl, hw0⟩
  | true =>
    have hpk2 := hpk hall
    have hkd := fun (W : World) (hb : Below w.heap.size w W) => Tryz.scal cs ps cad pad cc pc N hcl hpl hpk2 hck d e ad cap W (h.below (hb.mono hN)) (hcs.below (hb.mono hN)) (hps.below (hb.mono hN)) (Nat.le_trans hN hb.size) (Lib.tabBelow_of_tabIs (hJ.on hb).here)
    unfold Ex.v Node.v at hkd
    have hsl := sizedN_law e
    rw [hall] at hcb
    cases hsz : (sizesT e 1 0).1 with
    | false =>
      have hspec : koBy (nodeR cs ps) ps e = (0, 2) := by unfold koBy; rw [hall, hsz]; rfl
      replace hspec := Lib.hid hspec
      rw [hsl, hsz] at hsm
      clear hsz hall hpk hsl
      go_wp2_with (first
        | (go_at_call 83; refine hcb.mono ?_; rintro r w2 ⟨rfl, rfl⟩)
        | (go_at_call 85; refine hsm.mono ?_; rintro r w2 ⟨rfl, hb2⟩))
      go_ret2
      rw [hspec.out]
      exact ⟨rfl, below_next hw0 hb2⟩
    | true =>
      have hspec : koBy (nodeR cs ps) ps e = foldT (nodeR cs ps) e := by unfold koBy; rw [hall, hsz]; rfl
      replace hspec := Lib.hid hspec
      rw [hsl, hsz] at hsm
      clear hsz hall hpk hsl
      go_wp2_with (first
        | (go_at_call 83; refine hcb.mono ?_; rintro r w2 ⟨rfl, rfl⟩)
        | (go_at_call 85; refine hsm.mono ?_; rintro r w2 ⟨rfl, hb2⟩; have hw2 := below_next hw0 hb2; have hB2 := hB0.next hb2; obtain ⟨c0, c1, c2, c3, c4, c5, c6, c7, c8, c9, c10, c11, c12⟩ := hB2.is)
        | (go_at_call 86; refine (hkd _ hw2).mono ?_; rintro r w4 ⟨rfl, hb4⟩))
      go_ret2
      rw [hspec.out]
      exact ⟨rfl, below_next hw2 hb4⟩
end Go.Proofs

namespace Go.Proofs
open Go.RowKit Go.Ke

theorem cat_empty (a b : ByteArray) : (a ++ b).toList.isEmpty = (a.toList.isEmpty && b.toList.isEmpty) := by
  rw [Bool.eq_iff_iff, Bool.and_eq_true, List.isEmpty_iff, List.isEmpty_iff, List.isEmpty_iff, ByteArray.toList_eq, ByteArray.toList_eq, ByteArray.toList_eq]
  simp

theorem value_form (vk vn : Int) (vs : ByteArray) : (if vk == 0 then (if !formB vk vn vs then 3 else 0) else if !inB vk 1 4 then 3 else checkN vk vk vn vs) = faultN 0 vk vn vs := by
  have he : vs.toList.isEmpty = true → printB vs = true := fun h => by
    unfold printB
    rw [← ByteArray.toList_eq, List.isEmpty_iff.mp h]
    rfl
  have hz : vs.toList.isEmpty = true → (vs.size : Int) = 0 := fun h => by
    have h1 : vs.data.toList.length = 0 := by rw [← ByteArray.toList_eq, List.isEmpty_iff.mp h]; rfl
    have h2 : vs.data.toList.length = vs.size := Array.length_toList
    omega
  unfold faultN checkN formB rangeB
  generalize vs.toList.isEmpty = e at *
  generalize printB vs = p at *
  generalize (vs.size : Int) = z at *
  unfold inB
  by_cases h0 : vk = 0
  · subst h0; cases e <;> cases p <;> simp_all <;> grind
  by_cases h1 : vk = 1
  · subst h1; cases e <;> cases p <;> simp_all <;> grind
  by_cases h2 : vk = 2
  · subst h2; cases e <;> cases p <;> simp_all <;> grind
  by_cases h3 : vk = 3
  · subst h3; cases e <;> cases p <;> simp_all <;> grind
  by_cases h4 : vk = 4
  · subst h4; cases e <;> cases p <;> simp_all <;> grind
  · have : ¬ (0 ≤ vk ∧ vk ≤ 4) := by omega
    cases e <;> cases p <;> simp_all <;> grind

theorem form_law (x : Node) (n : Nat) (hn : n ≤ 1000000000) : formN x n = if sfN x n = 0 then (if x.k == 1 then faultN 0 x.vk x.vn x.vs else 0) else sfN x n := by
  obtain ⟨k, op, nn, vk, vn, vs, src, name, dist⟩ := x
  have hv := value_form vk vn vs
  have hc := cat_empty src name
  unfold formN
  simp only
  rw [hv, hc]
  unfold sfN sfOk onlyB
  simp only
  generalize faultN 0 vk vn vs = F
  generalize eq3 vk vn vs 0 0 ⟨#[]⟩ = E
  generalize src.toList.isEmpty = S
  generalize name.toList.isEmpty = M
  clear hv hc
  by_cases hin : inB k 1 6 = true
  · have h6 : k = 1 ∨ k = 2 ∨ k = 3 ∨ k = 4 ∨ k = 5 ∨ k = 6 := by unfold inB at hin; simp at hin; omega
    rcases h6 with rfl | rfl | rfl | rfl | rfl | rfl
    · simp [inB, rightArgsB]
      cases E <;> cases S <;> cases M <;> cases dist <;> by_cases h0 : op = 0 <;> by_cases h1 : nn = 0 <;> by_cases h2 : n = 0 <;> simp [h0, h1, h2]
    · simp [inB, rightArgsB]
      cases E <;> cases S <;> cases M <;> cases dist <;> by_cases h0 : op = 0 <;> by_cases h2 : n = 0 <;> simp [h0, h2]
    · simp [inB, rightArgsB]
      cases E <;> cases dist <;> by_cases h0 : op = 0 <;> by_cases h1 : nn = 0 <;> by_cases h2 : n = 0 <;> simp [h0, h1, h2]
    · cases hop : inB op 1 27 with
      | false => simp [inB]
      | true =>
        have hu : usesB op = decide (25 ≤ op) := by
          unfold usesB
          unfold inB at hop ⊢
          simp at hop
          rw [Bool.eq_iff_iff]
          simp
          omega
        rw [args_arity hop hn, hu]
        generalize rightArgsB 4 op n = R
        generalize decide (25 ≤ op) = U
        simp [inB]
        cases E <;> cases S <;> cases M <;> cases dist <;> cases R <;> cases U <;> by_cases h1 : nn = 0 <;> simp [h1]
    · simp [inB, rightArgsB]
      by_cases h3 : 3 ≤ n
      · by_cases h4 : (n : Int).tmod 2 = 1
        · cases E <;> cases S <;> cases M <;> cases dist <;> by_cases h0 : op = 0 <;> by_cases h1 : nn = 0 <;> simp [h0, h1, h4] <;> omega
        · cases E <;> cases S <;> cases M <;> cases dist <;> by_cases h0 : op = 0 <;> by_cases h1 : nn = 0 <;> simp [h0, h1, h4] <;> omega
      · cases E <;> cases S <;> cases M <;> cases dist <;> by_cases h0 : op = 0 <;> by_cases h1 : nn = 0 <;> simp [h0, h1] <;> omega
    · simp [inB, rightArgsB]
      by_cases h3 : 2 ≤ n
      · cases E <;> cases S <;> cases M <;> cases dist <;> by_cases h0 : op = 0 <;> by_cases h1 : nn = 0 <;> simp [h0, h1] <;> omega
      · cases E <;> cases S <;> cases M <;> cases dist <;> by_cases h0 : op = 0 <;> by_cases h1 : nn = 0 <;> simp [h0, h1] <;> omega
  · simp [hin]

theorem sum_law (op a b : Int) (ho : op = 12 ∨ op = 13) (ha : 0 ≤ a ∧ a ≤ 4) (hb : 0 ≤ b ∧ b ≤ 4) : (sumN op a b).2 = (sumR op a b).2 ∧ ((sumN op a b).2 = true → (sumN op a b).1 = (sumR op a b).1) := by
  obtain h2 | h2 | h2 | h2 | h2 : a = 0 ∨ a = 1 ∨ a = 2 ∨ a = 3 ∨ a = 4 := by omega
  all_goals
    subst h2
    obtain h3 | h3 | h3 | h3 | h3 : b = 0 ∨ b = 1 ∨ b = 2 ∨ b = 3 ∨ b = 4 := by omega
    all_goals
      subst h3
      rcases ho with rfl | rfl <;> decide

theorem mul_law (op a b : Int) (ho : op = 14 ∨ op = 15 ∨ op = 16) : (2, fitsB [a, b] [2, 2]) = sumR op a b ∨ (fitsB [a, b] [2, 2] = false ∧ (sumR op a b).2 = false) := by
  have e : sumOk op a b = fitsB [a, b] [2, 2] := by
    unfold sumOk fitsB fitsB fitsB
    rcases ho with rfl | rfl | rfl <;> simp
  unfold sumR
  rw [e]
  cases fitsB [a, b] [2, 2] with
  | false => right; simp
  | true => left; rcases ho with rfl | rfl | rfl <;> simp

theorem oper_law {op n : Int} {l : List Int} (hop : inB op 1 27 = true) (hra : rightArgsB 4 op l.length = true) (hl : ∀ q ∈ l, 0 ≤ q ∧ q ≤ 4) (hrn : rightNB op n = true) :
    (operN op n l).2 = (opKR op n l).2 ∧ ((operN op n l).2 = true → (operN op n l).1 = (opKR op n l).1) := by
  have hcf := common_fits l 0 (Int.le_refl 0) (fun k hk => (hl k hk).1)
  have ha := getD_kind hl 0
  have hb := getD_kind hl 1
  have h27 : op = 1 ∨ op = 2 ∨ op = 3 ∨ (4 ≤ op ∧ op ≤ 10) ∨ op = 11 ∨ (op = 12 ∨ op = 13) ∨ (op = 14 ∨ op = 15 ∨ op = 16) ∨ op = 17 ∨ op = 18 ∨ op = 19 ∨ op = 20 ∨ op = 21 ∨ op = 22 ∨ op = 23 ∨ op = 24 ∨ op = 25 ∨ op = 26 ∨ op = 27 := by unfold inB at hop; simp at hop; omega
  rcases h27 with rfl | rfl | rfl | h | rfl | h | h | rfl | rfl | rfl | rfl | rfl | rfl | rfl | rfl | rfl | rfl | rfl
  · unfold operN opKR isR; simp
  · unfold operN opKR isR; simp
  · unfold operN opKR isR; simp
  · have e1 : operN op n l = (1, (commonF 0 l).2) := by
      have h' : op = 4 ∨ op = 5 ∨ op = 6 ∨ op = 7 ∨ op = 8 ∨ op = 9 ∨ op = 10 := by omega
      rcases h' with rfl | rfl | rfl | rfl | rfl | rfl | rfl <;> simp [operN]
    have e2 : opKR op n l = (1, (fitsF 0 l).2) := by
      have h' : op = 4 ∨ op = 5 ∨ op = 6 ∨ op = 7 ∨ op = 8 ∨ op = 9 ∨ op = 10 := by omega
      rcases h' with rfl | rfl | rfl | rfl | rfl | rfl | rfl <;> simp [opKR]
    rw [e1, e2, hcf]; simp
  · unfold operN opKR; simp
  · have e1 : operN op n l = sumN op (l.getD 0 0) (l.getD 1 0) := by rcases h with rfl | rfl <;> simp [operN]
    have e2 : opKR op n l = sumR op (l.getD 0 0) (l.getD 1 0) := by rcases h with rfl | rfl <;> simp [opKR]
    rw [e1, e2]
    exact sum_law op _ _ h ha hb
  · have e1 : operN op n l = (2, fitsB l [2, 2]) := by rcases h with rfl | rfl | rfl <;> simp [operN]
    have e2 : opKR op n l = sumR op (l.getD 0 0) (l.getD 1 0) := by rcases h with rfl | rfl | rfl <;> simp [opKR]
    have hl2 : l.length = 2 := by rcases h with rfl | rfl | rfl <;> (simp [rightArgsB, arityN] at hra; omega)
    rw [e1, e2]
    match l, hl2 with
    | [a, b], _ =>
      show (2, fitsB [a, b] [2, 2]).2 = (sumR op a b).2 ∧ ((2, fitsB [a, b] [2, 2]).2 = true → (2, fitsB [a, b] [2, 2]).1 = (sumR op a b).1)
      rcases mul_law op a b h with e | ⟨e3, e4⟩
      · rw [← e]; simp
      · rw [e4]; simp [e3]
  · unfold operN opKR isR; simp
  · unfold operN opKR isR; simp
  · unfold operN opKR isR; simp
  · unfold operN opKR isR; simp
  · unfold operN opKR isR; simp
  · unfold operN opKR isR; simp
  · unfold operN opKR isR; simp
  · unfold operN opKR; simp [hcf]
  · unfold operN opKR isR; simp
  · unfold operN opKR isR; simp
  · have hn : inB n 1 4 = true := by simpa [rightNB] using hrn
    have e1 : operN 27 n l = (n, (l.getD 0 0 == 0) || ((l.getD 0 0 == n) || canB (l.getD 0 0) n)) := by simp [operN]
    have e2 : opKR 27 n l = (n, (l.getD 0 0 == 0) || canB (l.getD 0 0) n) := by simp [opKR]
    rw [e1, e2]
    generalize l.getD 0 0 = a at *
    refine ⟨?_, fun _ => rfl⟩
    show ((a == 0) || ((a == n) || canB a n)) = ((a == 0) || canB a n)
    by_cases h1 : a = n
    · subst h1
      have : canB a a = true := by
        unfold canB
        rw [hn]
        by_cases h4 : a = 1 <;> simp [h4]
      rw [this]; simp
    · have h1b : (a == n) = false := by simpa using h1
      rw [h1b, Bool.false_or]

theorem casesG_same {f g : List Int → Int × Bool} (h : ∀ l : List Int, (∀ q ∈ l, 0 ≤ q ∧ q ≤ 4) → f l = g l) : ∀ (n : Nat) (l acc : List Int), l.length ≤ n → (∀ k ∈ acc, 0 ≤ k ∧ k ≤ 4) → (∀ k ∈ l, 0 ≤ k ∧ k ≤ 4) → casesG f acc l = casesG g acc l := by
  intro n
  induction n with
  | zero => intro l acc hl ha hk; cases l with
    | nil => exact h _ ha
    | cons a l => simp at hl
  | succ n ih =>
    intro l acc hl ha hk
    match l, hl, hk with
    | [], _, _ => exact h _ ha
    | [_], _, _ => exact h _ ha
    | a :: b :: l, hl, hk =>
      unfold casesG
      rw [ih l (acc ++ [b]) (by simp at hl; omega) (kinds_snoc ha (hk b (by simp))) (fun k h => hk k (by simp [h]))]

theorem case_law {l : List Int} (hl : ∀ q ∈ l, 0 ≤ q ∧ q ≤ 4) : caseN l = caseR l := by
  unfold caseN caseR
  refine casesG_same (fun l hl => common_fits l 0 (Int.le_refl 0) fun k hk => (hl k hk).1) l.length l _ (Nat.le_refl _) ?_ hl
  intro q hq
  rw [List.mem_singleton] at hq
  subst hq
  exact getD_kind hl _

theorem node_law (cs : List Col) (ps : List Int) (x : Node) (ks : List Int) (hk : ∀ q ∈ ks, 0 ≤ q ∧ q ≤ 4) (hn : ks.length ≤ 1000000000) : nodeV cs ps x ks = nodeR cs ps x ks := by
  unfold nodeV nodeR
  rw [form_law x ks.length hn]
  by_cases hs : sfN x ks.length = 0
  · obtain ⟨hin, hop, hok⟩ := sfN_in hs
    rw [if_pos hs, hs]
    obtain ⟨k, op, nn, vk, vn, vs, src, name, dist⟩ := x
    simp only at hin hop ⊢
    have h6 : k = 1 ∨ k = 2 ∨ k = 3 ∨ k = 4 ∨ k = 5 ∨ k = 6 := by unfold inB at hin; simp at hin; omega
    rcases h6 with rfl | rfl | rfl | rfl | rfl | rfl
    · unfold partV partR leafU
      by_cases hf : faultN 0 vk vn vs = 0
      · simp [hf]
      · simp [hf]
    · unfold partV partR leafU
      cases inB nn 0 ((ps.length : Int) - 1) <;> simp
    · unfold partV partR leafU
      by_cases hc : 0 ≤ colAt src name 0 cs
      · simp [hc]
      · simp [hc]
    · have hra : rightArgsB 4 op ks.length = true := (sfN_four hn hs).2
      have hop := hop rfl
      unfold partV partR leafU
      cases hr : rightNB op nn with
      | true =>
        have hl : ((op == 27) && !inB nn 1 4 || ((op == 25) || (op == 26)) && !inB nn 1 6) = false := by
          unfold rightNB at hr
          by_cases h1 : op = 25
          · subst h1; simp at hr; simp [hr]
          · by_cases h2 : op = 26
            · subst h2; simp at hr; simp [hr]
            · by_cases h3 : op = 27
              · subst h3; simp at hr; simp [hr]
              · simp [h1, h2, h3]
        obtain ⟨e1, e2⟩ := oper_law (n := nn) hop hra hk hr
        simp only [hl]
        rw [← e1]
        cases ho : (operN op nn ks).2 with
        | true => simp [e2 ho]
        | false => simp
      | false =>
        have hl : ((op == 27) && !inB nn 1 4 || ((op == 25) || (op == 26)) && !inB nn 1 6) = true := by
          unfold rightNB at hr
          by_cases h1 : op = 25
          · subst h1; simp at hr; simp [hr]
          · by_cases h2 : op = 26
            · subst h2; simp at hr; simp [hr]
            · by_cases h3 : op = 27
              · subst h3; simp at hr; simp [hr]
              · simp [h1, h2, h3] at hr
        simp [hl]
    · unfold partV partR leafU
      rw [case_law hk]
      simp
    · unfold partV partR leafU
      rw [common_fits ks 0 (Int.le_refl 0) fun q hq => (hk q hq).1]
      simp
  · rw [if_neg hs, if_neg (by simpa using hs), if_neg (by simpa using hs)]

/-- Two folds are one where they are one at each part of at most M parts. -/
theorem fold_same2 {f g : Node → List Int → Int × Int} {ok : List Int → Prop} (M : Nat) (hnil : ok []) (hcons : ∀ x k l, ok k → (f x k).2 = 0 → ok l → ok ((f x k).1 :: l)) (hfg : ∀ x k, ok k → k.length ≤ M → f x k = g x k) : ∀ n : Nat, n ≤ M →
    (∀ e : Ex, countT e ≤ n → foldT f e = foldT g e) ∧ (∀ l : List Ex, countL l ≤ n → foldL f l = foldL g l ∧ ((foldL f l).2 = 0 → ok (foldL f l).1 ∧ (foldL f l).1.length ≤ countL l)) := by
  intro n
  induction n with
  | zero =>
    refine fun _ => ⟨fun e he => ?_, fun l hl => ?_⟩
    · cases e; unfold countT at he; omega
    · cases l with
      | nil => exact ⟨rfl, fun _ => ⟨hnil, Nat.zero_le _⟩⟩
      | cons a l => cases a; unfold countL countT at hl; omega
  | succ n ih =>
    intro hM
    have ih := ih (by omega)
    have hT : ∀ e : Ex, countT e ≤ n + 1 → foldT f e = foldT g e := by
      intro e he
      obtain ⟨x, l⟩ := e
      unfold countT at he
      obtain ⟨h1, h2⟩ := ih.2 l (by omega)
      unfold foldT
      rw [← h1]
      split
      · rename_i h0
        have := h2 h0
        exact hfg x _ this.1 (by omega)
      · rfl
    refine ⟨hT, fun l => ?_⟩
    induction l with
    | nil => intro _; exact ⟨rfl, fun _ => ⟨hnil, Nat.zero_le _⟩⟩
    | cons a l ihl =>
      intro hl
      unfold countL at hl
      have hca : 1 ≤ countT a := by cases a; unfold countT; omega
      obtain ⟨h1, h2⟩ := ihl (by omega)
      have h3 := hT a (by omega)
      rw [foldL_cons, foldL_cons, ← h1, ← h3]
      refine ⟨rfl, fun h0 => ?_⟩
      by_cases h4 : (foldT f a).2 = 0
      · by_cases h5 : (foldL f l).2 = 0
        · rw [if_pos h4, if_pos h5]
          obtain ⟨x, la⟩ := a
          unfold countT at hl hca
          obtain ⟨k1, k2⟩ := ih.2 la (by omega)
          have e : foldT f (.mk x la) = if (foldL f la).2 = 0 then f x (foldL f la).1 else (0, (foldL f la).2) := rfl
          rw [e] at h4 ⊢
          by_cases h6 : (foldL f la).2 = 0
          · rw [if_pos h6] at h4 ⊢
            refine ⟨hcons x _ _ (k2 h6).1 h4 (h2 h5).1, ?_⟩
            have := (h2 h5).2
            simp only [List.length_cons, countL, countT]
            omega
          · rw [if_neg h6] at h4
            exact absurd h4 h6
        · rw [if_pos h4, if_neg h5] at h0; exact absurd h0 h5
      · rw [if_neg h4] at h0; exact absurd h0 h4

/-- Both packages tell the same of a whole expression. -/
theorem ko_law (cs : List Col) (ps : List Int) (e : Ex) (hpk : (ps.all fun c => inB c 1 4) = true → ∀ q ∈ ps, 0 ≤ q ∧ q ≤ 4) (hck : ∀ q ∈ cs, 0 ≤ q.kind ∧ q.kind ≤ 4) (hcnt : countT e ≤ 1000000000) : koBy (nodeV cs ps) ps e = koBy (nodeR cs ps) ps e := by
  unfold koBy
  cases hall : (ps.all fun c => inB c 1 4) with
  | false => rfl
  | true =>
    have hpk := hpk hall
    have := (fold_same2 (f := nodeV cs ps) (g := nodeR cs ps) (ok := fun k => ∀ q ∈ k, 0 ≤ q ∧ q ≤ 4) 1000000000 (by simp) (fun x k l hk h0 hl => by
      intro q hq
      rw [List.mem_cons] at hq
      rcases hq with rfl | hq
      · exact nodeV_range hpk hck x k hk h0
      · exact hl q hq) (fun x k hk hn => node_law cs ps x k hk hn) 1000000000 (Nat.le_refl _)).1 e hcnt
    rw [this]
end Go.Proofs
