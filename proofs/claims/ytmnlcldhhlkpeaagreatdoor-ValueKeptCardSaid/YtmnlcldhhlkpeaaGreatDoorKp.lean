/- ValueKept: the plain laws of keys and texts. No program's run in this text. -/
import Derived.Test.YtmnlcldhhlkpeaaGreatDoorKl
import Derived.Laws.BitsLemmas
import Derived.Conc.WgArith
namespace Go.Proofs
open Go.RowKit

/-! Texts there and back. -/

theorem repl_hit {s old : List UInt8} (new : List UInt8) (hne : old ≠ []) (h : old.isPrefixOf s = true) :
    Lib.replaceK old new (Lib.count s old) s = new ++ Lib.replaceK old new (Lib.count (s.drop old.length) old) (s.drop old.length) := by
  have hi : Lib.index s old = ((0 : Nat) : Int) := Lib.index_hit (i := 0) (fun _ h => absurd h (Nat.not_lt_zero _)) (Nat.zero_le _) (by simpa [Lib.occAt] using h)
  rw [Lib.count_hit hne hi, Nat.add_comm, Lib.replaceK_hit _ _ _ _ 0 hi]
  simp

theorem repl_skip {old l : List UInt8} {b : UInt8} (new : List UInt8) (hne : old ≠ []) (h : old.isPrefixOf (b :: l) = false) :
    Lib.replaceK old new (Lib.count (b :: l) old) (b :: l) = b :: Lib.replaceK old new (Lib.count l old) l := by
  have hix : Lib.index (b :: l) old = if Lib.index l old == -1 then -1 else Lib.index l old + 1 := by rw [Lib.index, h]; simp
  by_cases hm : Lib.index l old = -1
  · rw [Lib.count_miss hm, Lib.count_miss (by rw [hix, if_pos (beq_iff_eq.2 hm)])]
    rfl
  · have hge := Lib.index_ge l old
    obtain ⟨j, hj⟩ : ∃ j : Nat, Lib.index l old = j := ⟨(Lib.index l old).toNat, by omega⟩
    have hix' : Lib.index (b :: l) old = ((j + 1 : Nat) : Int) := by rw [hix, if_neg (fun e => hm (beq_iff_eq.1 e)), hj]; omega
    rw [Lib.count_hit hne hj, Lib.count_hit hne hix', Nat.add_comm 1, Nat.add_comm 1, Lib.replaceK_hit _ _ _ _ _ hix', Lib.replaceK_hit _ _ _ _ _ hj]
    rw [show j + 1 + old.length = (j + old.length) + 1 by omega]
    simp

theorem repl_all {s old new : List UInt8} (hne : old ≠ new) : Lib.replaceAll s old new = Lib.replaceK old new (Lib.count s old) s := by
  unfold Lib.replaceAll Lib.replace Lib.replaceNum
  rw [if_neg (by simpa using hne), if_pos (Or.inl (by decide))]

def dbl (s : List UInt8) : List UInt8 := s.flatMap fun c => if c = 39 then [39, 39] else [c]

theorem dbl_39 (l : List UInt8) : dbl (39 :: l) = 39 :: 39 :: dbl l := rfl
theorem dbl_ne {b : UInt8} (l : List UInt8) (h : b ≠ 39) : dbl (b :: l) = b :: dbl l := by simp [dbl, h]

theorem dbl_to : ∀ s : List UInt8, Lib.replaceAll s [39] [39, 39] = dbl s := by
  intro s
  rw [repl_all (by decide)]
  induction s with
  | nil => simp [Lib.count_miss (show Lib.index [] [39] = -1 by simp [Lib.index]), Lib.replaceK, dbl]
  | cons b l ih =>
    by_cases hb : b = 39
    · subst hb
      rw [repl_hit _ (by simp) (by simp [List.isPrefixOf]), dbl_39]
      simp only [List.length_cons, List.length_nil, Nat.zero_add, List.drop_succ_cons, List.drop_zero, ih]
      rfl
    · rw [repl_skip _ (by simp) (by simp [List.isPrefixOf, Ne.symm hb]), ih, dbl_ne _ hb]

theorem dbl_back : ∀ s : List UInt8, Lib.replaceAll (dbl s) [39, 39] [39] = s := by
  intro s
  rw [repl_all (by decide)]
  induction s with
  | nil => simp [dbl, Lib.count_miss (show Lib.index [] [39, 39] = -1 by simp [Lib.index]), Lib.replaceK]
  | cons b l ih =>
    by_cases hb : b = 39
    · subst hb
      rw [dbl_39, repl_hit _ (by simp) (by simp [List.isPrefixOf])]
      simp only [List.length_cons, List.length_nil, Nat.zero_add, List.drop_succ_cons, List.drop_zero, ih]
      rfl
    · rw [dbl_ne _ hb, repl_skip _ (by simp) (by simp [List.isPrefixOf, Ne.symm hb]), ih]

theorem dbl_length : ∀ s : List UInt8, (dbl s).length ≤ 2 * s.length
  | [] => Nat.le_refl _
  | b :: l => by
    have ih := dbl_length l
    by_cases hb : b = 39
    · subst hb; rw [dbl_39]; simp; omega
    · rw [dbl_ne _ hb]; simp; omega

/-! What is right. -/

theorem fine_cases {x : Val} (h : x.fine = true) :
    x = Val.zero ∨ (x.k = 1 ∧ 0 ≤ x.n ∧ x.n ≤ 1 ∧ x.s = ⟨#[]⟩) ∨ (x.k = 2 ∧ -999999999999999 ≤ x.n ∧ x.n ≤ 999999999999999 ∧ x.s = ⟨#[]⟩) ∨ (x.k = 3 ∧ x.n = 0 ∧ printB x.s = true ∧ x.s.size ≤ 100) ∨ (x.k = 4 ∧ 0 ≤ x.n ∧ x.n ≤ 253402300799 ∧ x.s = ⟨#[]⟩) := by
  obtain ⟨k, n, s⟩ := x
  have hemp : s.toList.isEmpty = true → s = ⟨#[]⟩ := fun h => by
    rw [List.isEmpty_iff] at h
    rw [ByteArray.toList_eq] at h
    obtain ⟨⟨l⟩⟩ := s
    simp at h
    rw [h]
  unfold Val.fine formB rangeB inB at h
  simp only [Bool.and_eq_true, decide_eq_true_eq] at h
  obtain ⟨⟨h1, h2⟩, h3⟩ := h
  by_cases k0 : k = 0
  · subst k0
    simp only [beq_self_eq_true, if_true, Bool.and_eq_true, beq_iff_eq] at h1
    left
    rw [h1.1, hemp h1.2]
    rfl
  by_cases k3 : k = 3
  · subst k3
    simp only [beq_self_eq_true, if_true, show ((3 : Int) == 0) = false from rfl, show ((3 : Int) == 1) = false from rfl, show ((3 : Int) == 2) = false from rfl, show ((3 : Int) == 4) = false from rfl, Bool.false_eq_true, if_false, beq_iff_eq] at h1 h3
    exact Or.inr (Or.inr (Or.inr (Or.inl ⟨rfl, h1, h3, by exact_mod_cast h2⟩)))
  rw [if_neg (by simpa using k0), if_neg (by simpa using k3)] at h1
  simp only [Bool.and_eq_true, decide_eq_true_eq] at h1
  have hs := hemp h1.2
  rcases (show k = 1 ∨ k = 2 ∨ k = 4 by omega) with rfl | rfl | rfl
  · simp at h3
    exact Or.inr (Or.inl ⟨rfl, h3.1, h3.2, hs⟩)
  · simp at h3
    exact Or.inr (Or.inr (Or.inl ⟨rfl, h3.1, h3.2, hs⟩))
  · simp at h3
    exact Or.inr (Or.inr (Or.inr (Or.inr ⟨rfl, h3.1, h3.2, hs⟩)))

theorem text_ne {s t : ByteArray} (h : s.data.toList.head? ≠ t.data.toList.head?) : s ≠ t := fun e => h (by rw [e])

theorem quotedB_head {s : ByteArray} {c : UInt8} (h : s.data.toList.head? = some c) (hc : c ≠ 39) : quotedB s = false := by
  unfold quotedB
  rw [h]
  simp [hc]

theorem cand_null : candV ⟨#[110, 117, 108, 108]⟩ = Val.zero := by
  refine cand_none (text_ne (by decide)) (text_ne (by decide)) (quotedB_head (c := 110) rfl (by decide)) (by decide) ?_
  have e : Lib.atoiAll [110, 117, 108, 108] = .syntax := by rfl
  intro v
  show Lib.atoiAll [110, 117, 108, 108] ≠ .ok v
  rw [e]
  exact fun h => nomatch h

theorem cand_show (x : Val) (h : x.fine = true) : candV (showT x) = x ∧ (showT x).size ≤ 900 := by
  have h300 := fun (n : Int) h0 h1 => dtext_size (n := n) h0 h1
  rcases fine_cases h with rfl | ⟨hk, h0, h1, hs⟩ | ⟨hk, h0, h1, hs⟩ | ⟨hk, hn, hp, hs⟩ | ⟨hk, h0, h1, hs⟩
  · unfold Val.zero
    rw [showT0]
    exact ⟨cand_null, by decide⟩
  · obtain ⟨k, n, s⟩ := x
    simp only at hk h0 h1 hs
    subst hk
    subst hs
    rw [showT1]
    rcases (show n = 0 ∨ n = 1 by omega) with rfl | rfl
    · rw [if_neg (by decide)]
      exact ⟨cand_false, by decide⟩
    · rw [if_pos rfl]
      exact ⟨cand_true, by decide⟩
  · obtain ⟨k, n, s⟩ := x
    simp only at hk h0 h1 hs
    subst hk
    subst hs
    rw [showT2]
    exact ⟨cand_itoa h0 h1, by have := Lib.itoa_length_le n (by omega) (by omega); rw [itoaB_size]; omega⟩
  · obtain ⟨k, n, s⟩ := x
    simp only at hk hn hp hs
    subst hk
    subst hn
    rw [showT3, dbl_to]
    have hl : (⟨#[39]⟩ ++ ⟨(dbl s.data.toList).toArray⟩ ++ ⟨#[39]⟩ : ByteArray).data.toList = 39 :: (dbl s.data.toList ++ [39]) := by simp [ByteArray.data_append]
    have hz : (⟨#[39]⟩ ++ ⟨(dbl s.data.toList).toArray⟩ ++ ⟨#[39]⟩ : ByteArray).size = (dbl s.data.toList).length + 2 := by rw [Lib.size_eq, hl]; simp
    have hd := dbl_length s.data.toList
    have hs' : s.data.toList.length = s.size := Array.length_toList
    refine ⟨?_, by omega⟩
    unfold candV
    rw [if_neg, if_pos]
    rotate_left
    · unfold quotedB
      rw [hl, hz, show (39 :: (dbl s.data.toList ++ [39]) : List UInt8) = (39 :: dbl s.data.toList) ++ [39] from rfl, List.getLast?_concat]
      simp
    · rintro (e | e)
      · have := congrArg (fun t : ByteArray => t.data.toList.head?) e
        simp only [hl, List.head?_cons] at this
        exact absurd this (by decide)
      · have := congrArg (fun t : ByteArray => t.data.toList.head?) e
        simp only [hl, List.head?_cons] at this
        exact absurd this (by decide)
    rw [hl, hz]
    have : ((39 :: (dbl s.data.toList ++ [39])).drop 1).take ((dbl s.data.toList).length + 2 - 1 - 1) = dbl s.data.toList := by simp
    rw [this, dbl_back]
  · obtain ⟨k, n, s⟩ := x
    simp only at hk h0 h1 hs
    subst hk
    subst hs
    rw [showT4]
    have hl : (⟨#[64]⟩ ++ dtextB n : ByteArray).data.toList = 64 :: (dtextB n).data.toList := by simp [ByteArray.data_append]
    have hz : (⟨#[64]⟩ ++ dtextB n : ByteArray).size = (dtextB n).size + 1 := by rw [Lib.size_eq, hl, Lib.size_eq]; simp
    have h3 := h300 n h0 h1
    refine ⟨?_, by omega⟩
    have hh : (⟨#[64]⟩ ++ dtextB n : ByteArray).data.toList.head? = some 64 := by rw [hl]; rfl
    rw [cand_date (text_ne (by rw [hh]; decide)) (text_ne (by rw [hh]; decide)) (quotedB_head hh (by decide)) (by rw [hl]; simp [Lib.hasPrefix, List.isPrefixOf])]
    have : (⟨#[64]⟩ ++ dtextB n : ByteArray).extract 1 (⟨#[64]⟩ ++ dtextB n : ByteArray).size = dtextB n := by
      apply ByteArray.ext
      apply Array.ext'
      have := Lib.extract_toList (⟨#[64]⟩ ++ dtextB n : ByteArray) 1 (⟨#[64]⟩ ++ dtextB n : ByteArray).size
      rw [ByteArray.toList_eq] at this
      rw [this, hl, hz]
      have e : (dtextB n).data.toList.length = (dtextB n).size := Array.length_toList
      simp only [Nat.add_sub_cancel, List.drop_succ_cons, List.drop_zero]
      exact List.take_of_length_le (Nat.le_of_eq e)
    rw [this, dread_dtext h0 h1]

end Go.Proofs

namespace Go.Proofs
open Go.RowKit

/-- The number that bytes write, the first the greatest. -/
def valN : List UInt8 → Nat
  | [] => 0
  | c :: r => c.toNat * 256 ^ r.length + valN r

theorem valN_lt : ∀ l : List UInt8, valN l < 256 ^ l.length
  | [] => by simp [valN]
  | c :: r => by
    have ih := valN_lt r
    have hc := c.toNat_lt
    unfold valN
    rw [List.length_cons, Nat.pow_succ]
    have : c.toNat * 256 ^ r.length ≤ 255 * 256 ^ r.length := Nat.mul_le_mul_right _ (by omega)
    omega

theorem cmp_same : ∀ (x y : List UInt8), x.length = y.length → Lib.compareBytes x y = cmpI (valN x) (valN y)
  | [], [], _ => by simp [Lib.compareBytes, cmpI, valN]
  | [], _ :: _, h => by simp at h
  | _ :: _, [], h => by simp at h
  | a :: x, b :: y, h => by
    have hl : x.length = y.length := by simpa using h
    have ih := cmp_same x y hl
    have hx := valN_lt x
    have hy := valN_lt y
    unfold Lib.compareBytes valN
    rw [hl] at hx ⊢
    generalize 256 ^ y.length = m at hx hy
    have mono : ∀ u v : Nat, u < v → u * m + m ≤ v * m := fun u v huv => by
      have := Nat.mul_le_mul_right m (show u + 1 ≤ v from huv)
      rwa [Nat.add_mul, Nat.one_mul] at this
    by_cases h1 : a < b
    · rw [if_pos h1]
      have := mono _ _ (UInt8.lt_iff_toNat_lt.1 h1)
      unfold cmpI
      rw [if_pos (by omega)]
    · rw [if_neg h1]
      by_cases h2 : b < a
      · rw [if_pos h2]
        have := mono _ _ (UInt8.lt_iff_toNat_lt.1 h2)
        unfold cmpI
        rw [if_neg (by omega), if_pos (by omega)]
      · have e : a = b := by
          have e1 := mt UInt8.lt_iff_toNat_lt.2 h1
          have e2 := mt UInt8.lt_iff_toNat_lt.2 h2
          exact UInt8.toNat_inj.1 (by omega)
        subst e
        rw [if_neg h2, ih]
        unfold cmpI
        generalize a.toNat * m = t
        split <;> split <;> (try split) <;> (try split) <;> omega

theorem cmp_cons (a b : UInt8) (x y : List UInt8) : Lib.compareBytes (a :: x) (b :: y) = if a < b then -1 else if b < a then 1 else Lib.compareBytes x y := rfl

theorem cmp_append (R S : List UInt8) : ∀ (x y : List UInt8), x.length = y.length → Lib.compareBytes (x ++ R) (y ++ S) = if Lib.compareBytes x y ≠ 0 then Lib.compareBytes x y else Lib.compareBytes R S
  | [], [], _ => by simp [Lib.compareBytes]
  | [], _ :: _, h => by simp at h
  | _ :: _, [], h => by simp at h
  | a :: x, b :: y, h => by
    have ih := cmp_append R S x y (by simpa using h)
    show Lib.compareBytes (a :: (x ++ R)) (b :: (y ++ S)) = _
    rw [cmp_cons, cmp_cons]
    split
    · simp
    · split
      · simp
      · exact ih

/-- A text and a byte 0 behind it. -/
theorem cmp_text (R S : List UInt8) : ∀ (x y : List UInt8), (∀ c ∈ x, c ≠ 0) → (∀ c ∈ y, c ≠ 0) → Lib.compareBytes (x ++ 0 :: R) (y ++ 0 :: S) = if Lib.compareBytes x y ≠ 0 then Lib.compareBytes x y else Lib.compareBytes R S
  | [], [], _, _ => by simp [Lib.compareBytes]
  | [], b :: y, _, h => by
    have hb : (0 : UInt8) < b := by
      have := h b (by simp)
      rw [UInt8.lt_iff_toNat_lt]
      have h1 : b.toNat ≠ 0 := fun e => this (UInt8.toNat_inj.1 e)
      show 0 < b.toNat
      omega
    simp [Lib.compareBytes, hb]
  | a :: x, [], h, _ => by
    have hb : (0 : UInt8) < a := by
      have := h a (by simp)
      rw [UInt8.lt_iff_toNat_lt]
      have h1 : a.toNat ≠ 0 := fun e => this (UInt8.toNat_inj.1 e)
      show 0 < a.toNat
      omega
    have : ¬ a < 0 := by
      rw [UInt8.lt_iff_toNat_lt]
      exact Nat.not_lt_zero _
    simp [Lib.compareBytes, hb]
  | a :: x, b :: y, h, h' => by
    have ih := cmp_text R S x y (fun c hc => h c (by simp [hc])) (fun c hc => h' c (by simp [hc]))
    show Lib.compareBytes (a :: (x ++ 0 :: R)) (b :: (y ++ 0 :: S)) = _
    rw [cmp_cons, cmp_cons]
    split
    · simp
    · split
      · simp
      · exact ih

theorem be8_val {N : Int} (h0 : 0 ≤ N) (h1 : N < 9223372036854775808) : (valN (be8 N) : Int) = N := by
  unfold be8 valN
  simp only [valN, List.length_cons, List.length_nil, Int.natCast_add, Int.natCast_mul, byte_toNat]
  have p0 : ((256 ^ 0 : Nat) : Int) = 1 := rfl
  have p1 : ((256 ^ (0 + 1) : Nat) : Int) = 256 := rfl
  have p2 : ((256 ^ (0 + 1 + 1) : Nat) : Int) = 65536 := rfl
  have p3 : ((256 ^ (0 + 1 + 1 + 1) : Nat) : Int) = 16777216 := rfl
  have p4 : ((256 ^ (0 + 1 + 1 + 1 + 1) : Nat) : Int) = 4294967296 := rfl
  have p5 : ((256 ^ (0 + 1 + 1 + 1 + 1 + 1) : Nat) : Int) = 1099511627776 := rfl
  have p6 : ((256 ^ (0 + 1 + 1 + 1 + 1 + 1 + 1) : Nat) : Int) = 281474976710656 := rfl
  have p7 : ((256 ^ (0 + 1 + 1 + 1 + 1 + 1 + 1 + 1) : Nat) : Int) = 72057594037927936 := rfl
  rw [p0, p1, p2, p3, p4, p5, p6, p7]
  omega

theorem be8_length (N : Int) : (be8 N).length = 8 := rfl

theorem wrap_nat (n : Nat) (h : n < 9223372036854775808) : IntKind.u64.wrap (n : Int) = (n : Int) := by
  rw [IntKind.wrap_u64]
  omega

set_option maxRecDepth 20000 in
theorem step_nat (a : Nat) (c : UInt8) (h : a * 256 + c.toNat < 9223372036854775808) : numStep (a : Int) c = ((a * 256 + c.toNat : Nat) : Int) := by
  have hc := c.toNat_lt
  unfold numStep
  have e63 : (2 : Nat) ^ 63 = 9223372036854775808 := by decide
  have e1 : IntKind.u64.wrap ((a : Int) * 256) = ((a * 256 : Nat) : Int) := by
    have := wrap_nat (a * 256) (by omega)
    rwa [Int.natCast_mul] at this ⊢
  have e2 : IntKind.u64.wrap (c.toNat : Int) = (c.toNat : Int) := wrap_nat _ (by omega)
  rw [e1, e2, (bits_nat .u64 63 (by decide) ConcN.wraps_u64_63 (a * 256) c.toNat (by rw [e63]; omega) (by rw [e63]; omega)).2]
  have := Nat.shiftLeft_add_eq_or_of_lt (show c.toNat < 2 ^ 8 by omega) a
  rw [Nat.shiftLeft_eq] at this
  rw [← this]

theorem fold_num : ∀ (L : List UInt8) (a : Nat), a * 256 ^ L.length + valN L < 9223372036854775808 → L.foldl numStep (a : Int) = ((a * 256 ^ L.length + valN L : Nat) : Int)
  | [], a, _ => by simp [valN]
  | c :: L, a, h => by
    have e : a * 256 ^ (c :: L).length + valN (c :: L) = (a * 256 + c.toNat) * 256 ^ L.length + valN L := by
      rw [List.length_cons, Nat.pow_succ, valN, Nat.add_mul, Nat.mul_assoc, Nat.mul_comm (256 ^ L.length) 256]
      omega
    rw [e] at h ⊢
    have hp : 1 ≤ 256 ^ L.length := Nat.one_le_pow _ _ (by omega)
    have hm : (a * 256 + c.toNat) * 1 ≤ (a * 256 + c.toNat) * 256 ^ L.length := Nat.mul_le_mul_left _ hp
    rw [List.foldl_cons, step_nat a c (by omega)]
    exact fold_num L _ h

theorem numK_be8 {n : Int} (h0 : -4611686018427387904 ≤ n) (h1 : n < 4611686018427387904) : numK (be8 (n + 4611686018427387904)) = n := by
  have hv := be8_val (N := n + 4611686018427387904) (by omega) (by omega)
  have hf : numL (be8 (n + 4611686018427387904)) = n + 4611686018427387904 := by
    unfold numL
    have := fold_num (be8 (n + 4611686018427387904)) 0 (by omega)
    rw [show ((0 : Nat) : Int) = 0 from rfl] at this
    rw [this]
    omega
  unfold numK
  rw [hf, show n + 4611686018427387904 - 4611686018427387904 = n by omega, IntKind.wrap_u64]
  unfold wrap64
  omega

theorem no_zero {s : ByteArray} (h : printB s = true) : ∀ c ∈ s.data.toList, c ≠ 0 := by
  intro c hc e
  subst e
  unfold printB at h
  have := List.all_eq_true.1 h 0 hc
  revert this
  decide

theorem keyOf_text {x : Val} (h : x.k = 3) : keyOf x = 3 :: (x.s.data.toList ++ [0]) := by
  unfold keyOf
  rw [if_neg (by omega), if_pos h]

theorem keyOf_num {x : Val} (h0 : x.k ≠ 0) (h3 : x.k ≠ 3) : keyOf x = UInt8.ofNat x.k.toNat :: be8 (x.n + 4611686018427387904) := by
  unfold keyOf
  rw [if_neg h0, if_neg h3]

theorem keyOf_head {x : Val} : ∃ t, keyOf x = UInt8.ofNat x.k.toNat :: t := by
  by_cases h0 : x.k = 0
  · exact ⟨[], by unfold keyOf; rw [if_pos h0, h0]; rfl⟩
  · by_cases h3 : x.k = 3
    · exact ⟨_, by rw [keyOf_text h3, h3]; rfl⟩
    · exact ⟨_, keyOf_num h0 h3⟩

theorem fine_k {x : Val} (h : x.fine = true) : 0 ≤ x.k ∧ x.k ≤ 4 := by
  have := (plain_bounds x).1
  rwa [fine_plain h] at this

/-- What is not a text: its kind and number. -/
theorem fine_num {x : Val} (h : x.fine = true) (h3 : x.k ≠ 3) : x.s = ⟨#[]⟩ ∧ -999999999999999 ≤ x.n ∧ x.n ≤ 999999999999999 ∧ (x.k = 0 → x = Val.zero) := by
  rcases fine_cases h with rfl | ⟨hk, h0, h1, hs⟩ | ⟨hk, h0, h1, hs⟩ | ⟨hk, hn, hp, hs⟩ | ⟨hk, h0, h1, hs⟩
  · exact ⟨rfl, by decide, by decide, fun _ => rfl⟩
  · exact ⟨hs, by omega, by omega, fun e => by omega⟩
  · exact ⟨hs, by omega, by omega, fun e => by omega⟩
  · exact absurd hk h3
  · exact ⟨hs, by omega, by omega, fun e => by omega⟩

theorem cmpI_self (n : Int) : cmpI n n = 0 := by
  unfold cmpI
  rw [if_neg (by omega), if_neg (by omega)]

theorem compare_self : ∀ l : List UInt8, Lib.compareBytes l l = 0
  | [] => rfl
  | a :: l => by rw [cmp_cons, if_neg (UInt8.lt_irrefl a), if_neg (UInt8.lt_irrefl a)]; exact compare_self l

theorem cmp_key {x y : Val} (hx : x.fine = true) (hy : y.fine = true) (R S : List UInt8) :
    Lib.compareBytes (keyOf x ++ R) (keyOf y ++ S) = if orderN x y ≠ 0 then orderN x y else Lib.compareBytes R S := by
  obtain ⟨x0, x4⟩ := fine_k hx
  obtain ⟨y0, y4⟩ := fine_k hy
  by_cases hk : x.k = y.k
  · by_cases h3 : x.k = 3
    · have hy3 : y.k = 3 := by omega
      have px : x.n = 0 ∧ printB x.s = true := by
        rcases fine_cases hx with rfl | ⟨h, _⟩ | ⟨h, _⟩ | ⟨h, hn, hp, _⟩ | ⟨h, _⟩
        · cases h3
        · omega
        · omega
        · exact ⟨hn, hp⟩
        · omega
      have py : y.n = 0 ∧ printB y.s = true := by
        rcases fine_cases hy with rfl | ⟨h, _⟩ | ⟨h, _⟩ | ⟨h, hn, hp, _⟩ | ⟨h, _⟩
        · cases hy3
        · omega
        · omega
        · exact ⟨hn, hp⟩
        · omega
      rw [keyOf_text h3, keyOf_text hy3]
      have e (s : ByteArray) (T : List UInt8) : (3 :: (s.data.toList ++ [0])) ++ T = 3 :: (s.data.toList ++ 0 :: T) := by simp
      rw [e, e, cmp_cons, if_neg (UInt8.lt_irrefl 3), if_neg (UInt8.lt_irrefl 3), cmp_text R S _ _ (no_zero px.2) (no_zero py.2)]
      have ho : orderN x y = Lib.compareBytes x.s.data.toList y.s.data.toList := by
        unfold orderN orN cmpS
        rw [hk, px.1, py.1, cmpI_self, cmpI_self]
        simp
      rw [ho]
    · obtain ⟨sx, nx0, nx1, zx⟩ := fine_num hx h3
      obtain ⟨sy, ny0, ny1, zy⟩ := fine_num hy (by omega)
      by_cases h0 : x.k = 0
      · rw [zx h0, zy (by omega)]
        have ho : orderN Val.zero Val.zero = 0 := by
          unfold orderN orN cmpS
          rw [cmpI_self, cmpI_self, compare_self]
          simp
        rw [ho]
        rfl
      · rw [keyOf_num h0 h3, keyOf_num (by omega) (by omega), ← hk, List.cons_append, List.cons_append, cmp_cons, if_neg (UInt8.lt_irrefl _), if_neg (UInt8.lt_irrefl _), cmp_append R S (be8 (x.n + 4611686018427387904)) (be8 (y.n + 4611686018427387904)) rfl, cmp_same (be8 (x.n + 4611686018427387904)) (be8 (y.n + 4611686018427387904)) rfl, be8_val (by omega) (by omega), be8_val (by omega) (by omega)]
        have ho : orderN x y = cmpI x.n y.n := by
          unfold orderN orN cmpS
          rw [hk, sx, sy, cmpI_self, compare_self]
          simp only [ne_eq, not_true_eq_false, if_false]
          split <;> simp_all
        have hc : cmpI (x.n + 4611686018427387904) (y.n + 4611686018427387904) = cmpI x.n y.n := by
          unfold cmpI
          split <;> split <;> (try split) <;> (try split) <;> omega
        rw [ho, hc]
  · obtain ⟨t, ht⟩ := @keyOf_head x
    obtain ⟨u, hu⟩ := @keyOf_head y
    rw [ht, hu, List.cons_append, List.cons_append, cmp_cons]
    have ex : (UInt8.ofNat x.k.toNat).toNat = x.k.toNat := by rw [UInt8.toNat_ofNat']; omega
    have ey : (UInt8.ofNat y.k.toNat).toNat = y.k.toNat := by rw [UInt8.toNat_ofNat']; omega
    have ho : orderN x y = cmpI x.k y.k := by
      unfold orderN orN
      rw [if_pos]
      unfold cmpI
      split
      · decide
      · rw [if_pos (by omega)]; decide
    rw [ho]
    unfold cmpI
    by_cases hlt : x.k < y.k
    · rw [if_pos (by rw [UInt8.lt_iff_toNat_lt, ex, ey]; omega), if_pos hlt]
      rfl
    · rw [if_neg (by rw [UInt8.lt_iff_toNat_lt, ex, ey]; omega), if_pos (by rw [UInt8.lt_iff_toNat_lt, ex, ey]; omega), if_neg hlt, if_pos (show y.k < x.k by omega), if_pos (by decide)]

theorem keyL_cons {x : Val} (l : List Val) (hx : x.fine = true) : keyL (x :: l) = keyOf x ++ keyL l := by
  show keyOf x.plain ++ keyL l = _
  rw [fine_plain hx]

theorem AllFine.tail {x : Val} {l : List Val} (h : AllFine (x :: l)) : x.fine = true ∧ AllFine l := ⟨h x (by simp), fun y hy => h y (by simp [hy])⟩

/-- Keys are ordered as lists are. -/
theorem keys_cmp : ∀ L K : List Val, AllFine L → AllFine K → Lib.compareBytes (keyL L) (keyL K) = cmpL L K
  | [], [], _, _ => rfl
  | [], y :: K, _, hK => by
    obtain ⟨u, hu⟩ := @keyOf_head y
    rw [keyL_cons K hK.tail.1, hu]
    rfl
  | x :: L, [], hL, _ => by
    obtain ⟨u, hu⟩ := @keyOf_head x
    rw [keyL_cons L hL.tail.1, hu]
    rfl
  | x :: L, y :: K, hL, hK => by
    rw [keyL_cons L hL.tail.1, keyL_cons K hK.tail.1, cmp_key hL.tail.1 hK.tail.1, keys_cmp L K hL.tail.2 hK.tail.2]
    show _ = if orderN x.plain y.plain ≠ 0 then orderN x.plain y.plain else cmpL L K
    rw [fine_plain hL.tail.1, fine_plain hK.tail.1]

theorem index_text : ∀ (s R : List UInt8), (∀ c ∈ s, c ≠ 0) → Lib.indexByte (s ++ 0 :: R) 0 = s.length
  | [], R, _ => by simp [Lib.indexByte]
  | c :: s, R, h => by
    have ih := index_text s R (fun c hc => h c (by simp [hc]))
    have hc : (c == 0) = false := by simpa using h c (by simp)
    rw [List.cons_append, Lib.indexByte, ih, hc]
    simp

theorem unk_key {x : Val} (hx : x.fine = true) {R : List UInt8} {l : List Val} (h : unk R = (l, 0)) : unk (keyOf x ++ R) = (x :: l, 0) := by
  have main : ∀ (c : UInt8) (r : List UInt8) (n : Nat), keyOf x ++ R = c :: r → dec c r = .ok x n → (c :: r).drop n = R → unk (keyOf x ++ R) = (x :: l, 0) := by
    intro c r n e hd hn
    rw [e, unk_ok hd, hn, h]
    rfl
  obtain ⟨x0, x4⟩ := fine_k hx
  by_cases h3 : x.k = 3
  · have px : x.n = 0 ∧ printB x.s = true := by
      rcases fine_cases hx with rfl | ⟨h, _⟩ | ⟨h, _⟩ | ⟨h, hn, hp, _⟩ | ⟨h, _⟩
      · cases h3
      · omega
      · omega
      · exact ⟨hn, hp⟩
      · omega
    obtain ⟨k, n, s⟩ := x
    simp only at h3 px
    subst h3
    obtain ⟨rfl, hp⟩ := px
    have hi : idx0 (s.data.toList ++ 0 :: R) = (s.data.toList.length : Int) := index_text _ R (no_zero hp)
    have ht : textK s.data.toList = ⟨3, 0, s⟩ := rfl
    refine main 3 (s.data.toList ++ 0 :: R) (s.data.toList.length + 2) (by rw [keyOf_text rfl]; simp) ?_ ?_
    · unfold dec
      rw [if_neg (by decide), if_neg (by decide), if_pos (by decide), hi, if_neg (by omega), Int.toNat_natCast, List.take_left, ht, if_pos hx]
    · rw [List.drop_succ_cons, ← List.drop_drop, List.drop_left]
      rfl
  · obtain ⟨sx, nx0, nx1, zx⟩ := fine_num hx h3
    by_cases h0 : x.k = 0
    · obtain rfl := zx h0
      exact main 0 R 1 rfl (by unfold dec; rw [if_neg (by decide), if_pos (by decide)]) rfl
    · obtain ⟨k, n, s⟩ := x
      simp only at h0 h3 sx nx0 nx1 x0 x4
      subst sx
      have ek : (UInt8.ofNat k.toNat).toNat = k.toNat := by rw [UInt8.toNat_ofNat']; omega
      have ek2 : ((UInt8.ofNat k.toNat).toNat : Int) = k := by omega
      have hn := numK_be8 (n := n) (by omega) (by omega)
      refine main (UInt8.ofNat k.toNat) (be8 (n + 4611686018427387904) ++ R) 9 (by rw [keyOf_num h0 h3]; rfl) ?_ rfl
      unfold dec
      have ht : (be8 (n + 4611686018427387904) ++ R).take 8 = be8 (n + 4611686018427387904) := rfl
      rw [ht, hn, ek2, if_neg (by omega), if_neg (by omega), if_neg (by omega), if_neg (by simp [be8_length]), if_pos hx]

/-- Keys read back. -/
theorem unk_keys : ∀ L : List Val, AllFine L → unk (keyL L) = (L, 0)
  | [], _ => by simp [keyL, unk]
  | x :: L, h => by
    rw [keyL_cons L h.tail.1]
    exact unk_key h.tail.1 (unk_keys L h.tail.2)

end Go.Proofs
