/- Of package value: what a text is the text of, casts. No condition but what the library's variables hold. -/
import Derived.Test.YtmnlcldhhlkpeaaGreatDoorTextR
import Derived.Test.YtmnlcldhhlkpeaaGreatDoorCand
namespace Go.Proofs
open Go.RowKit

theorem head_byte {s : ByteArray} (h : 0 < s.size) : (s.data.toList.head? == some 39) = decide ((s[0].toNat : Int) = 39) := by
  have e : s.data.toList.head? = some s[0] := by
    rw [List.head?_eq_getElem?, Array.getElem?_toList, Array.getElem?_eq_getElem (show 0 < s.data.size from h)]
    rfl
  rw [e]
  by_cases hc : s[0] = 39
  · rw [hc]; rfl
  · have : ¬ (s[0].toNat : Int) = 39 := fun h' => hc (UInt8.toNat_inj.mp (by show s[0].toNat = 39; omega))
    simp [hc, this]

theorem last_byte {s : ByteArray} (h : s.size - 1 < s.size) : (s.data.toList.getLast? == some 39) = decide ((s[s.size - 1].toNat : Int) = 39) := by
  have e : s.data.toList.getLast? = some s[s.size - 1] := by
    rw [List.getLast?_eq_getElem?, Array.getElem?_toList, Array.length_toList, Array.getElem?_eq_getElem (show s.data.size - 1 < s.data.size from h)]
    rfl
  rw [e]
  by_cases hc : s[s.size - 1] = 39
  · rw [hc]; rfl
  · have : ¬ (s[s.size - 1].toNat : Int) = 39 := fun h' => hc (UInt8.toNat_inj.mp (by show s[s.size - 1].toNat = 39; omega))
    simp [hc, this]

theorem not_list {s t : ByteArray} (h : s ≠ t) : ¬ s.toList = t.data.toList := by
  intro e
  rw [ByteArray.toList_eq] at e
  exact h (ByteArray.ext (Array.toList_inj.mp e))

theorem mid_list (s : ByteArray) : (s.extract 1 (s.size - 1)).data.toList = (s.data.toList.drop 1).take (s.size - 1 - 1) := by
  rw [← ByteArray.toList_eq, Lib.extract_toList]

theorem cand_date {s : ByteArray} (hT : s ≠ trueB) (hF : s ≠ falseB) (hq : quotedB s = false) (hp : Lib.hasPrefix s.data.toList [64] = true) : candV s = dreadV (s.extract 1 s.size) := by
  unfold candV
  rw [if_neg (by rintro (h | h); exact hT h; exact hF h), hq, if_neg (by decide), if_pos hp]

theorem cand_num {s : ByteArray} {v : Int} (hT : s ≠ trueB) (hF : s ≠ falseB) (hq : quotedB s = false) (hp : Lib.hasPrefix s.data.toList [64] = false) (h : Lib.atoiAll s.data.toList = .ok v) : candV s = ⟨2, v, ⟨#[]⟩⟩ := by
  unfold candV
  rw [if_neg (by rintro (h | h); exact hT h; exact hF h), hq, if_neg (by decide), if_neg (by rw [hp]; decide), h]

theorem cand_none {s : ByteArray} (hT : s ≠ trueB) (hF : s ≠ falseB) (hq : quotedB s = false) (hp : Lib.hasPrefix s.data.toList [64] = false) (h : ∀ v, Lib.atoiAll s.data.toList ≠ .ok v) : candV s = Val.zero := by
  unfold candV
  rw [if_neg (by rintro (h | h); exact hT h; exact hF h), hq, if_neg (by decide), if_neg (by rw [hp]; decide)]
  split
  · rename_i v hv
    exact absurd hv (h v)
  · rfl

theorem cand_quoted {s : ByteArray} (hT : s ≠ trueB) (hF : s ≠ falseB) (hq : quotedB s = true) : candV s = ⟨3, 0, ⟨(Lib.replaceAll (s.extract 1 (s.size - 1)).data.toList [39, 39] [39]).toArray⟩⟩ := by
  unfold candV
  rw [if_neg (by rintro (h | h); exact hT h; exact hF h), hq, if_pos rfl, mid_list]

set_option maxRecDepth 20000 in
set_option maxHeartbeats 4000000 in
theorem Tryz.candF {N : Nat} (s : ByteArray) (hs : s.size ≤ 900) (w : World) (hL : Lit N w) (hN : N ≤ w.heap.size) :
    Calls Tryz.prog 55 #[.string s] w fun e w' => e = .returned (candV s).v ∧ Below w.heap.size w w' := by
  have hB := BoxAt.new Val.zero (Below.refl w.heap.size w)
  obtain ⟨hL1, hN1⟩ := hB.lit hL hN
  go_enter Tryz.func55, Tryz.ntmps55
  go_upto_region 1 with fail
  change BoxAt w (w.alloc (.cells #[.int .i64 0, .int .i64 0, .string ⟨#[]⟩] 23)) w.heap.size Val.zero at hB
  change Lit N (w.alloc (.cells #[.int .i64 0, .int .i64 0, .string ⟨#[]⟩] 23)) at hL1
  change N ≤ (w.alloc (.cells #[.int .i64 0, .int .i64 0, .string ⟨#[]⟩] 23)).heap.size at hN1
  generalize w.alloc (.cells #[.int .i64 0, .int .i64 0, .string ⟨#[]⟩] 23) = W at hB hL1 hN1 ⊢
  by_cases hT : s = trueB
  · have hz : candV s = boolV true := by rw [hT]; exact cand_true
    have ht : s.toList = [116, 114, 117, 101] := by rw [hT, ByteArray.toList_eq]; rfl
    clear hT
    go_wp2_with (go_at_call 29; refine (Tryz.boolean true _).mono ?_; rintro e w2 ⟨rfl, hb2⟩; replace hB := hB.next hb2; obtain ⟨⟨c0, c1, c2⟩, f0, f1, f2⟩ := free_zero hB.at'; simp only [Val.v, valV, boolV])
    exact bodyPost_ret (v := (boolV true).v) (res_box Tryz.results55 rfl (hB.set (boolV true)).at') rfl ⟨by first | (rw [hz]) | rfl, (hB.set (boolV true)).hb⟩
  by_cases hF : s = falseB
  · have hz : candV s = boolV false := by rw [hF]; exact cand_false
    have ht : s.toList = [102, 97, 108, 115, 101] := by rw [hF, ByteArray.toList_eq]; rfl
    clear hT hF
    go_wp2_with (go_at_call 29; refine (Tryz.boolean false _).mono ?_; rintro e w2 ⟨rfl, hb2⟩; replace hB := hB.next hb2; obtain ⟨⟨c0, c1, c2⟩, f0, f1, f2⟩ := free_zero hB.at'; simp only [Val.v, valV, boolV])
    exact bodyPost_ret (v := (boolV false).v) (res_box Tryz.results55 rfl (hB.set (boolV false)).at') rfl ⟨by first | (rw [hz]) | rfl, (hB.set (boolV false)).hb⟩
  have hTn : ¬ s.toList = [116, 114, 117, 101] := not_list hT
  have hFn : ¬ s.toList = [102, 97, 108, 115, 101] := not_list hF
  have hTb : (s.toList == [116, 114, 117, 101]) = false := by simpa using hTn
  have hFb : (s.toList == [102, 97, 108, 115, 101]) = false := by simpa using hFn
  by_cases h2 : 2 ≤ s.size
  · have hi0 : 0 < s.size := by omega
    have hi1 : s.size - 1 < s.size := by omega
    have e1 : ((s.size : Int) - 1) = ((s.size - 1 : Nat) : Int) := by omega
    have hq0 : quotedB s = (decide ((s[0].toNat : Int) = 39) && decide ((s[s.size - 1].toNat : Int) = 39)) := by
      unfold quotedB
      rw [head_byte hi0, last_byte hi1, decide_eq_true h2, Bool.true_and]
    by_cases ha : (s[0].toNat : Int) = 39
    · by_cases hl : (s[s.size - 1].toNat : Int) = 39
      · have hq : quotedB s = true := by rw [hq0, decide_eq_true ha, decide_eq_true hl]; rfl
        have hz := cand_quoted hT hF hq
        clear hT hF hq hq0
        have hm : (s.extract 1 (s.size - 1)).size ≤ 1000 := by simp; omega
        have hsl : ∀ w : World, (Instr.slice 9 (.string s) (some (.int .i64 1)) (some (.int .i64 ((s.size - 1 : Nat) : Int))) none).run Tryz.prog w = .ok (.string (s.extract 1 (s.size - 1))) w :=
          fun w => run_slice_string (P := Tryz.prog) w 9 s .i64 .i64 1 ((s.size - 1 : Nat) : Int) Tryz.underlying9 (by omega) (by omega) (by omega)
        go_wp2_with fail
        refine (Tryz.replaceF (s.extract 1 (s.size - 1)) ⟨#[39, 39]⟩ ⟨#[39]⟩ hm (by decide) (by decide) _ hL1).mono ?_
        rintro e w2 ⟨rfl, hb2⟩
        replace hB := hB.next hb2
        obtain ⟨⟨c0, c1, c2⟩, f0, f1, f2⟩ := free_zero hB.at'
        change candV s = ⟨3, 0, ⟨(Lib.replaceAll (s.extract 1 (s.size - 1)).data.toList (⟨#[39, 39]⟩ : ByteArray).data.toList (⟨#[39]⟩ : ByteArray).data.toList).toArray⟩⟩ at hz
        generalize (⟨(Lib.replaceAll (s.extract 1 (s.size - 1)).data.toList (⟨#[39, 39]⟩ : ByteArray).data.toList (⟨#[39]⟩ : ByteArray).data.toList).toArray⟩ : ByteArray) = t at hz ⊢
        go_wp2_with fail
        exact bodyPost_ret (v := (⟨3, 0, t⟩ : Val).v) (res_box Tryz.results55 rfl (hB.set ⟨3, 0, t⟩).at') rfl ⟨by first | (rw [hz]) | rfl, (hB.set ⟨3, 0, t⟩).hb⟩
      · have hq : quotedB s = false := by rw [hq0, decide_eq_false hl, Bool.and_false]
        clear hq0
        have hz := fun h => cand_date hT hF hq h
        have hzn := fun v h h' => cand_num (v := v) hT hF hq h h'
        have hz0 := fun h h' => cand_none hT hF hq h h'
        clear hT hF hq
        cases hp : Lib.hasPrefix s.data.toList [64] with
        | true =>
          have hP : ∀ W, Calls Tryz.prog 86 #[.string s, .string ⟨#[64]⟩] W fun e W' => e = .returned (.bool true) ∧ W' = W := fun W => by
            have h := Tryz.strings_HasPrefix s ⟨#[64]⟩ W
            rwa [show Lib.hasPrefix s.data.toList (⟨#[64]⟩ : ByteArray).data.toList = true from hp] at h
          have h1 : 1 ≤ s.size := by
            by_cases h0 : s.size = 0
            · have e : s.data.toList = [] := List.eq_nil_of_length_eq_zero (by rw [← Lib.size_eq]; exact h0)
              rw [e] at hp
              cases hp
            · omega
          replace hz := hz hp
          clear hzn hz0 hp
          go_wp2_with (go_at_call 86; refine (hP _).mono ?_; rintro e w2 ⟨rfl, rfl⟩)
          refine (Tryz.dateRead (s.extract 1 s.size) _ (by simp; omega) hL1 hN1).mono ?_
          rintro e w2 ⟨rfl, hb2⟩
          replace hB := hB.next hb2
          obtain ⟨⟨c0, c1, c2⟩, f0, f1, f2⟩ := free_zero hB.at'
          generalize dreadV (s.extract 1 s.size) = x at hz ⊢
          simp only [Val.v, valV]
          go_wp2_with fail
          exact bodyPost_ret (v := x.v) (res_box Tryz.results55 rfl (hB.set x).at') rfl ⟨by first | (rw [hz]) | rfl, (hB.set x).hb⟩
        | false =>
          have hP : ∀ W, Calls Tryz.prog 86 #[.string s, .string ⟨#[64]⟩] W fun e W' => e = .returned (.bool false) ∧ W' = W := fun W => by
            have h := Tryz.strings_HasPrefix s ⟨#[64]⟩ W
            rwa [show Lib.hasPrefix s.data.toList (⟨#[64]⟩ : ByteArray).data.toList = false from hp] at h
          replace hzn := fun v h => hzn v hp h
          replace hz0 := fun h => hz0 hp h
          clear hz hp
          go_wp2_with (go_at_call 86; refine (hP _).mono ?_; rintro e w2 ⟨rfl, rfl⟩)
          refine (Tryz.atoiF s (by omega) _ hL1 hN1).mono ?_
          rintro e w2 (⟨v, ha, _, _, rfl, hb2⟩ | ⟨ha, ⟨v, t, p, rfl⟩, hb2⟩)
          · have hz := hzn v ha
            clear hzn hz0 ha
            replace hB := hB.next hb2
            obtain ⟨⟨c0, c1, c2⟩, f0, f1, f2⟩ := free_zero hB.at'
            go_wp2_with fail
            exact bodyPost_ret (v := (⟨2, v, ⟨#[]⟩⟩ : Val).v) (res_box Tryz.results55 rfl (hB.set ⟨2, v, ⟨#[]⟩⟩).at') rfl ⟨by first | (rw [hz]) | rfl, (hB.set ⟨2, v, ⟨#[]⟩⟩).hb⟩
          · have hz := hz0 ha
            clear hzn hz0 ha
            replace hB := hB.next hb2
            obtain ⟨⟨c0, c1, c2⟩, f0, f1, f2⟩ := free_zero hB.at'
            go_wp2_with fail
            exact bodyPost_ret (v := Val.zero.v) (res_box Tryz.results55 rfl (hB.set Val.zero).at') rfl ⟨by first | (rw [hz]) | rfl, (hB.set Val.zero).hb⟩
    · have hq : quotedB s = false := by rw [hq0, decide_eq_false ha, Bool.false_and]
      clear hq0
      have hz := fun h => cand_date hT hF hq h
      have hzn := fun v h h' => cand_num (v := v) hT hF hq h h'
      have hz0 := fun h h' => cand_none hT hF hq h h'
      clear hT hF hq
      cases hp : Lib.hasPrefix s.data.toList [64] with
      | true =>
        have hP : ∀ W, Calls Tryz.prog 86 #[.string s, .string ⟨#[64]⟩] W fun e W' => e = .returned (.bool true) ∧ W' = W := fun W => by
          have h := Tryz.strings_HasPrefix s ⟨#[64]⟩ W
          rwa [show Lib.hasPrefix s.data.toList (⟨#[64]⟩ : ByteArray).data.toList = true from hp] at h
        have h1 : 1 ≤ s.size := by
          by_cases h0 : s.size = 0
          · have e : s.data.toList = [] := List.eq_nil_of_length_eq_zero (by rw [← Lib.size_eq]; exact h0)
            rw [e] at hp
            cases hp
          · omega
        replace hz := hz hp
        clear hzn hz0 hp
        go_wp2_with (go_at_call 86; refine (hP _).mono ?_; rintro e w2 ⟨rfl, rfl⟩)
        refine (Tryz.dateRead (s.extract 1 s.size) _ (by simp; omega) hL1 hN1).mono ?_
        rintro e w2 ⟨rfl, hb2⟩
        replace hB := hB.next hb2
        obtain ⟨⟨c0, c1, c2⟩, f0, f1, f2⟩ := free_zero hB.at'
        generalize dreadV (s.extract 1 s.size) = x at hz ⊢
        simp only [Val.v, valV]
        go_wp2_with fail
        exact bodyPost_ret (v := x.v) (res_box Tryz.results55 rfl (hB.set x).at') rfl ⟨by first | (rw [hz]) | rfl, (hB.set x).hb⟩
      | false =>
        have hP : ∀ W, Calls Tryz.prog 86 #[.string s, .string ⟨#[64]⟩] W fun e W' => e = .returned (.bool false) ∧ W' = W := fun W => by
          have h := Tryz.strings_HasPrefix s ⟨#[64]⟩ W
          rwa [show Lib.hasPrefix s.data.toList (⟨#[64]⟩ : ByteArray).data.toList = false from hp] at h
        replace hzn := fun v h => hzn v hp h
        replace hz0 := fun h => hz0 hp h
        clear hz hp
        go_wp2_with (go_at_call 86; refine (hP _).mono ?_; rintro e w2 ⟨rfl, rfl⟩)
        refine (Tryz.atoiF s (by omega) _ hL1 hN1).mono ?_
        rintro e w2 (⟨v, ha, _, _, rfl, hb2⟩ | ⟨ha, ⟨v, t, p, rfl⟩, hb2⟩)
        · have hz := hzn v ha
          clear hzn hz0 ha
          replace hB := hB.next hb2
          obtain ⟨⟨c0, c1, c2⟩, f0, f1, f2⟩ := free_zero hB.at'
          go_wp2_with fail
          exact bodyPost_ret (v := (⟨2, v, ⟨#[]⟩⟩ : Val).v) (res_box Tryz.results55 rfl (hB.set ⟨2, v, ⟨#[]⟩⟩).at') rfl ⟨by first | (rw [hz]) | rfl, (hB.set ⟨2, v, ⟨#[]⟩⟩).hb⟩
        · have hz := hz0 ha
          clear hzn hz0 ha
          replace hB := hB.next hb2
          obtain ⟨⟨c0, c1, c2⟩, f0, f1, f2⟩ := free_zero hB.at'
          go_wp2_with fail
          exact bodyPost_ret (v := Val.zero.v) (res_box Tryz.results55 rfl (hB.set Val.zero).at') rfl ⟨by first | (rw [hz]) | rfl, (hB.set Val.zero).hb⟩
  · have hq : quotedB s = false := by unfold quotedB; rw [decide_eq_false h2, Bool.false_and]
    have h2' : (s.size : Int) < 2 := by omega
    have hz := fun h => cand_date hT hF hq h
    have hzn := fun v h h' => cand_num (v := v) hT hF hq h h'
    have hz0 := fun h h' => cand_none hT hF hq h h'
    clear hT hF hq
    cases hp : Lib.hasPrefix s.data.toList [64] with
    | true =>
      have hP : ∀ W, Calls Tryz.prog 86 #[.string s, .string ⟨#[64]⟩] W fun e W' => e = .returned (.bool true) ∧ W' = W := fun W => by
        have h := Tryz.strings_HasPrefix s ⟨#[64]⟩ W
        rwa [show Lib.hasPrefix s.data.toList (⟨#[64]⟩ : ByteArray).data.toList = true from hp] at h
      have h1 : 1 ≤ s.size := by
        by_cases h0 : s.size = 0
        · have e : s.data.toList = [] := List.eq_nil_of_length_eq_zero (by rw [← Lib.size_eq]; exact h0)
          rw [e] at hp
          cases hp
        · omega
      replace hz := hz hp
      clear hzn hz0 hp
      go_wp2_with (go_at_call 86; refine (hP _).mono ?_; rintro e w2 ⟨rfl, rfl⟩)
      refine (Tryz.dateRead (s.extract 1 s.size) _ (by simp; omega) hL1 hN1).mono ?_
      rintro e w2 ⟨rfl, hb2⟩
      replace hB := hB.next hb2
      obtain ⟨⟨c0, c1, c2⟩, f0, f1, f2⟩ := free_zero hB.at'
      generalize dreadV (s.extract 1 s.size) = x at hz ⊢
      simp only [Val.v, valV]
      go_wp2_with fail
      exact bodyPost_ret (v := x.v) (res_box Tryz.results55 rfl (hB.set x).at') rfl ⟨by first | (rw [hz]) | rfl, (hB.set x).hb⟩
    | false =>
      have hP : ∀ W, Calls Tryz.prog 86 #[.string s, .string ⟨#[64]⟩] W fun e W' => e = .returned (.bool false) ∧ W' = W := fun W => by
        have h := Tryz.strings_HasPrefix s ⟨#[64]⟩ W
        rwa [show Lib.hasPrefix s.data.toList (⟨#[64]⟩ : ByteArray).data.toList = false from hp] at h
      replace hzn := fun v h => hzn v hp h
      replace hz0 := fun h => hz0 hp h
      clear hz hp
      go_wp2_with (go_at_call 86; refine (hP _).mono ?_; rintro e w2 ⟨rfl, rfl⟩)
      refine (Tryz.atoiF s (by omega) _ hL1 hN1).mono ?_
      rintro e w2 (⟨v, ha, _, _, rfl, hb2⟩ | ⟨ha, ⟨v, t, p, rfl⟩, hb2⟩)
      · have hz := hzn v ha
        clear hzn hz0 ha
        replace hB := hB.next hb2
        obtain ⟨⟨c0, c1, c2⟩, f0, f1, f2⟩ := free_zero hB.at'
        go_wp2_with fail
        exact bodyPost_ret (v := (⟨2, v, ⟨#[]⟩⟩ : Val).v) (res_box Tryz.results55 rfl (hB.set ⟨2, v, ⟨#[]⟩⟩).at') rfl ⟨by first | (rw [hz]) | rfl, (hB.set ⟨2, v, ⟨#[]⟩⟩).hb⟩
      · have hz := hz0 ha
        clear hzn hz0 ha
        replace hB := hB.next hb2
        obtain ⟨⟨c0, c1, c2⟩, f0, f1, f2⟩ := free_zero hB.at'
        go_wp2_with fail
        exact bodyPost_ret (v := Val.zero.v) (res_box Tryz.results55 rfl (hB.set Val.zero).at') rfl ⟨by first | (rw [hz]) | rfl, (hB.set Val.zero).hb⟩

end Go.Proofs
