/- Of package value: what a text is the text of, casts. No condition but what the library's variables hold. -/
import Derived.Test.YtmnlcldhhlkpeaaGreatDoorText
namespace Go.Proofs
open Go.RowKit

theorem replaceK_len (old new : List UInt8) : ∀ (k : Nat) (s : List UInt8), (Lib.replaceK old new k s).length ≤ s.length + k * new.length
  | 0, s => by simp [Lib.replaceK]
  | k + 1, s => by
    unfold Lib.replaceK
    split
    · omega
    · have := replaceK_len old new k (s.drop ((Lib.index s old).toNat + old.length))
      simp only [List.length_append, List.length_take, List.length_drop] at this ⊢
      rw [Nat.succ_mul]
      omega

theorem replaceAll_len (s old new : List UInt8) : (Lib.replaceAll s old new).length ≤ s.length + (s.length + 1) * new.length := by
  unfold Lib.replaceAll Lib.replace
  split
  · omega
  · have h1 := replaceK_len old new (Lib.replaceNum s old (-1)) s
    have h2 : Lib.replaceNum s old (-1) ≤ s.length + 1 := by
      unfold Lib.replaceNum
      rw [if_pos (by omega)]
      exact Lib.count_le _ _
    have h3 := Nat.mul_le_mul_right new.length h2
    omega

theorem Tryz.textF (s : ByteArray) (hs : s.size ≤ 9223372036854775807) (w : World) : Calls Tryz.prog 45 #[.string s] w fun e w' => e = .returned (textV s).v ∧ Below w.heap.size w w' := by
  go_enter Tryz.func45, Tryz.ntmps45
  go_wp2_with (go_at_call 32; refine (Tryz.plainV 3 0 s hs _).mono ?_; rintro e w' ⟨rfl, hb⟩; obtain ⟨b1, hz, hb'⟩ := one_kept hb; obtain ⟨⟨c0, c1, c2⟩, f0, f1, f2⟩ := free_zero b1; simp only [Val.v, valV])
  refine bodyPost_ret (v := (Val.plain ⟨3, 0, s⟩).v) (by simp [results, Tryz.results45, go_sem, Val.v, valV, *]) rfl ⟨rfl, ?_⟩
  refine Below.setCell (Below.setCell (Below.setCell hb' ?_ _) ?_ _) ?_ _ <;> exact Nat.le_refl _

theorem Tryz.canF (a b : Int) (w : World) : Calls Tryz.prog 17 #[.int .i64 a, .int .i64 b] w fun e w' => e = .returned (.bool (canB a b)) ∧ w' = w := by
  cases h1 : inB a 1 4 <;> cases h2 : inB b 1 4 <;> cases h3 : (a == 1) <;> cases h4 : (b == 4) <;> cases h5 : (a == 4) <;> cases h6 : (b == 1)
  all_goals
    go_enter Tryz.func17, Tryz.ntmps17
    go_wp2_with (go_at_call 48; refine (Tryz.within _ _ _ _).mono ?_; rintro e w' ⟨rfl, rfl⟩)
    all_goals go_ret
    all_goals exact ⟨congrArg (fun z => Ending.returned (.bool z)) (by unfold canB; simp [h1, h2, h3, h4, h5, h6]), rfl⟩

theorem dtext_size {n : Int} (h0 : 0 ≤ n) (h1 : n ≤ 253402300799) : (dtextB n).size ≤ 300 := by
  obtain ⟨y1, y2, m1, d1, d2, _⟩ := year_9999 h0 h1
  have hdl := mdays_le (dY n) (dM n + 1)
  have hh : 0 ≤ hourP n ∧ hourP n ≤ 23 := by unfold hourP; omega
  have hm : 0 ≤ minP n ∧ minP n ≤ 59 := by unfold minP; omega
  have hs : 0 ≤ secP n ∧ secP n ≤ 59 := by unfold secP; omega
  have p0 := padB_size (dY n) 4 (by omega) (by omega) (by omega)
  have p1 := padB_size (dM n + 1) 2 (by omega) (by omega) (by omega)
  have p2 := padB_size (dD n) 2 (by omega) (by omega) (by omega)
  have p3 := padB_size (hourP n) 2 (by omega) (by omega) (by omega)
  have p4 := padB_size (minP n) 2 (by omega) (by omega) (by omega)
  have p5 := padB_size (secP n) 2 (by omega) (by omega) (by omega)
  have one : ∀ c : UInt8, (⟨#[c]⟩ : ByteArray).size = 1 := fun _ => rfl
  unfold dtextB
  simp only [ByteArray.size_append, one]
  omega

theorem fine_size {x : Val} (h : x.fine = true) : x.s.size ≤ 100 := by
  unfold Val.fine at h
  simp only [Bool.and_eq_true, decide_eq_true_eq] at h
  omega

theorem fmt_bool (b : Bool) : (⟨(Lib.formatBool b).toArray⟩ : ByteArray) = if b then trueB else falseB := by
  cases b <;> rfl

noncomputable def showT (p : Val) : ByteArray :=
  if p.k = 1 then (if p.n = 1 then trueB else falseB) else if p.k = 2 then itoaB p.n
  else if p.k = 3 then ⟨#[39]⟩ ++ ⟨(Lib.replaceAll p.s.data.toList [39] [39, 39]).toArray⟩ ++ ⟨#[39]⟩
  else if p.k = 4 then ⟨#[64]⟩ ++ dtextB p.n else ⟨#[110, 117, 108, 108]⟩

theorem showT0 (n : Int) (s : ByteArray) : showT ⟨0, n, s⟩ = ⟨#[110, 117, 108, 108]⟩ := by
  unfold showT
  rw [if_neg (show ¬ (0 : Int) = 1 by decide), if_neg (show ¬ (0 : Int) = 2 by decide), if_neg (show ¬ (0 : Int) = 3 by decide), if_neg (show ¬ (0 : Int) = 4 by decide)]

theorem showT1 (n : Int) (s : ByteArray) : showT ⟨1, n, s⟩ = if n = 1 then trueB else falseB := by
  unfold showT
  rw [if_pos rfl]

theorem showT2 (n : Int) (s : ByteArray) : showT ⟨2, n, s⟩ = itoaB n := by
  unfold showT
  rw [if_neg (show ¬ (2 : Int) = 1 by decide), if_pos rfl]

theorem showT3 (n : Int) (s : ByteArray) : showT ⟨3, n, s⟩ = ⟨#[39]⟩ ++ ⟨(Lib.replaceAll s.data.toList [39] [39, 39]).toArray⟩ ++ ⟨#[39]⟩ := by
  unfold showT
  rw [if_neg (show ¬ (3 : Int) = 1 by decide), if_neg (show ¬ (3 : Int) = 2 by decide), if_pos rfl]

theorem showT4 (n : Int) (s : ByteArray) : showT ⟨4, n, s⟩ = ⟨#[64]⟩ ++ dtextB n := by
  unfold showT
  rw [if_neg (show ¬ (4 : Int) = 1 by decide), if_neg (show ¬ (4 : Int) = 2 by decide), if_neg (show ¬ (4 : Int) = 3 by decide), if_pos rfl]

theorem shown3 (n : Int) (s : ByteArray) : shownV ⟨3, n, s⟩ = s := by
  unfold shownV
  rw [if_pos rfl]

set_option maxRecDepth 20000 in
set_option maxHeartbeats 2000000 in
theorem Tryz.showF {N : Nat} (x : Val) (hx : x.s.size ≤ 1000) (w : World) (hL : Lit N w) (hN : N ≤ w.heap.size) :
    Calls Tryz.prog 27 #[x.v] w fun e w' => e = .returned (.string (showT x.plain)) ∧ Below w.heap.size w w' := by
  have hB := BoxAt.new x (Below.refl w.heap.size w)
  unfold Val.v valV
  go_enter Tryz.func27, Tryz.ntmps27
  go_wp2_with fail
  refine (Tryz.plainV x.k x.n x.s (by omega) _).mono ?_
  rintro e w1 ⟨rfl, hb1⟩
  have hps : x.plain.s.size ≤ 1000 := by
    unfold Val.plain
    split
    · exact hx
    · decide
  have hpb : x.plain.k = 0 ∨ (x.plain.fine = true ∧ x.plain.k ≠ 0) := by
    by_cases h : x.plain.k = 0
    · exact Or.inl h
    · exact Or.inr ⟨by rw [(plain_k h).2]; exact (plain_k h).1, h⟩
  replace hB := hB.next hb1
  obtain ⟨⟨c0, c1, c2⟩, f0, f1, f2⟩ := hB.cells
  simp only [Val.v, valV]
  go_upto_region 2 with fail
  replace hB := hB.set x.plain
  obtain ⟨hL1, hN1⟩ := hB.lit hL hN
  clear c0 c1 c2 f0 f1 f2 hb1
  generalize hpx : x.plain = p at hps hpb hB hL1 hN1 ⊢
  generalize ((w1.setCell ⟨w.heap.size, 0, none⟩ (.int .i64 p.k)).setCell ⟨w.heap.size, 1, none⟩ (.int .i64 p.n)).setCell ⟨w.heap.size, 2, none⟩ (.string p.s) = W at hB hL1 hN1 ⊢
  have hb := hB.hb
  obtain ⟨⟨c0, c1, c2⟩, f0, f1, f2⟩ := hB.cells
  rcases hpb with h0 | ⟨hf, h0⟩
  · obtain ⟨k, n, s⟩ := p
    simp only at h0 c0 c1 c2
    subst h0
    go_wp2_with fail
    go_ret
    exact ⟨by (try rw [hpx]); rw [showT0]; rfl, hb⟩
  · rcases fine_is hf h0 with ⟨hk, hn, hs⟩ | ⟨hk, hn, hs⟩ | ⟨hk, hn⟩ | ⟨hk, hn, hs⟩
    all_goals
      obtain ⟨k, n, s⟩ := p
      simp only at hk hn hps c0 c1 c2
      subst hk
    · rcases hn with rfl | rfl
      all_goals
        go_wp2_with (go_at_call 57; refine (Tryz.strconv_FormatBool _ _).mono ?_; rintro e w2 ⟨rfl, rfl⟩)
        go_ret
        exact ⟨by (try rw [hpx]); rw [showT1]; rfl, hb⟩
    · go_wp2_with (go_at_call 58; refine (Tryz.itoaF _ (by omega) (by omega) _ hL1).mono ?_; rintro e w2 ⟨rfl, hb2⟩)
      go_ret
      exact ⟨by (try rw [hpx]); rw [showT2]; rfl, hb.trans (hb2.mono hb.size)⟩
    · have hrl : (Lib.replaceAll s.data.toList [39] [39, 39]).length ≤ 4000 := by
        have h1 := replaceAll_len s.data.toList [39] [39, 39]
        rw [← Lib.size_eq] at h1
        simp only [List.length_cons, List.length_nil] at h1
        omega
      go_wp2_with (go_at_call 59; refine (Tryz.replaceF _ _ _ hps (by decide) (by decide) _ hL1).mono ?_; rintro e w2 ⟨rfl, hb2⟩)
      go_ret
      exact ⟨by (try rw [hpx]); rw [showT3]; rfl, hb.trans (hb2.mono hb.size)⟩
    · have hds : (dtextB n).size ≤ 300 := dtext_size hn.1 hn.2
      go_wp2_with (go_at_call 60; refine (Tryz.dateText _ hn.1 hn.2 _ hL1 hN1).mono ?_; rintro e w2 ⟨rfl, hb2⟩)
      go_ret
      exact ⟨by (try rw [hpx]); rw [showT4]; rfl, hb.trans (hb2.mono hb.size)⟩

set_option maxRecDepth 20000 in
set_option maxHeartbeats 2000000 in
theorem Tryz.shownF {N : Nat} (x : Val) (hf : x.fine = true) (h0 : x.k ≠ 0) (w : World) (hL : Lit N w) (hN : N ≤ w.heap.size) :
    Calls Tryz.prog 46 #[x.v] w fun e w' => e = .returned (.string (shownV x)) ∧ Below w.heap.size w w' := by
  have hB := BoxAt.new x (Below.refl w.heap.size w)
  obtain ⟨hL1, hN1⟩ := hB.lit hL hN
  have hb := hB.hb
  obtain ⟨⟨c0, c1, c2⟩, f0, f1, f2⟩ := hB.cells
  have hp := plain_of hf
  have hsz := fine_size hf
  rcases fine_is hf h0 with ⟨hk, hn, hs⟩ | ⟨hk, hn, hs⟩ | ⟨hk, hn⟩ | ⟨hk, hn, hs⟩
  · obtain ⟨k, n, s⟩ := x
    simp only at hk hn hs hsz
    subst hk hs
    simp only [Val.v, valV] at c0 c1 c2 hb hL1 hN1 ⊢
    clear hn hf h0
    go_enter Tryz.func46, Tryz.ntmps46
    go_wp2_with fail
    generalize w.alloc (.cells #[.int .i64 1, .int .i64 n, .string ⟨#[]⟩] 23) = W at c0 c1 c2 hb hL1 hN1 f0 f1 f2 ⊢
    refine (Tryz.showF ⟨1, n, ⟨#[]⟩⟩ (show (0 : Nat) ≤ 1000 by decide) _ hL1 hN1).mono ?_
    rintro e w2 ⟨rfl, hb2⟩
    go_wp2_with fail
    go_ret
    refine ⟨?_, hb.trans (hb2.mono hb.size)⟩
    (try rw [hp]); rw [showT1, shown1]
    rfl
  · obtain ⟨k, n, s⟩ := x
    simp only at hk hn hs hsz
    subst hk hs
    simp only [Val.v, valV] at c0 c1 c2 hb hL1 hN1 ⊢
    clear hn hf h0
    go_enter Tryz.func46, Tryz.ntmps46
    go_wp2_with fail
    generalize w.alloc (.cells #[.int .i64 2, .int .i64 n, .string ⟨#[]⟩] 23) = W at c0 c1 c2 hb hL1 hN1 f0 f1 f2 ⊢
    refine (Tryz.showF ⟨2, n, ⟨#[]⟩⟩ (show (0 : Nat) ≤ 1000 by decide) _ hL1 hN1).mono ?_
    rintro e w2 ⟨rfl, hb2⟩
    go_wp2_with fail
    go_ret
    refine ⟨?_, hb.trans (hb2.mono hb.size)⟩
    (try rw [hp]); rw [showT2, shown2]
    rfl
  · obtain ⟨k, n, s⟩ := x
    simp only at hk hn hsz
    subst hk
    simp only [Val.v, valV] at c0 c1 c2 hb hL1 hN1 ⊢
    clear hn hf h0
    go_enter Tryz.func46, Tryz.ntmps46
    go_wp2_with fail
    go_ret
    exact ⟨by rw [shown3]; rfl, hb⟩
  · obtain ⟨k, n, s⟩ := x
    simp only at hk hn hs hsz
    subst hk hs
    simp only [Val.v, valV] at c0 c1 c2 hb hL1 hN1 ⊢
    clear hf h0
    go_enter Tryz.func46, Tryz.ntmps46
    go_wp2_with fail
    generalize w.alloc (.cells #[.int .i64 4, .int .i64 n, .string ⟨#[]⟩] 23) = W at c0 c1 c2 hb hL1 hN1 f0 f1 f2 ⊢
    refine (Tryz.dateText n hn.1 hn.2 _ hL1 hN1).mono ?_
    rintro e w2 ⟨rfl, hb2⟩
    go_wp2_with fail
    go_ret
    exact ⟨by rw [shown4]; rfl, hb.trans (hb2.mono hb.size)⟩

end Go.Proofs
