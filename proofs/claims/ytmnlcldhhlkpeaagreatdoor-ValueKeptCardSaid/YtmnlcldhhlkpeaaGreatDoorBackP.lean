/- ValueBack, the plain law: a value that is cast there and back is the value again, but from Int to Bool. No condition. No program in sight. -/
import Derived.Test.YtmnlcldhhlkpeaaGreatDoorDate
import Derived.Test.YtmnlcldhhlkpeaaGreatDoorPlain
import Derived.Lib.ItoaNum
import Derived.Lib.ItoaMem
import Derived.Lib.AtoiTie
import Derived.Lib.Repeat
import Derived.Lib.Replace
import Derived.Lib.Strings
import Derived.Lib.Small
namespace Go.Proofs
open Go.RowKit

/-! The numeral and back. -/

theorem digitVal_of {a : Nat} (h : a < 10) : Lib.digitVal (UInt8.ofNat (48 + a)) = some a := by
  have key : ∀ a : Fin 10, Lib.digitVal (UInt8.ofNat (48 + a.val)) = some a.val := by decide +kernel
  exact key ⟨a, h⟩

theorem decFrom_app (r : List UInt8) : ∀ (l : List UInt8) (acc m : Nat), Lib.decFrom acc l = some m → Lib.decFrom acc (l ++ r) = Lib.decFrom m r
  | [], acc, m, h => by
    simp only [Lib.decFrom, Option.some.injEq] at h
    subst h
    rfl
  | b :: l, acc, m, h => by
    simp only [List.cons_append, Lib.decFrom] at h ⊢
    cases hb : Lib.digitVal b with
    | none => rw [hb] at h; cases h
    | some d =>
      rw [hb] at h
      exact decFrom_app r l _ m h

theorem decFrom_dec (u : Nat) : Lib.decFrom 0 (Lib.decDigits u) = some u := by
  induction u using Nat.strongRecOn with
  | _ u ih =>
    by_cases h : u < 10
    · rw [Lib.decDigits_one h]
      simp only [Lib.decFrom, digitVal_of h, Nat.zero_mul, Nat.zero_add]
    · rw [Lib.decDigits, dif_neg h, decFrom_app _ _ _ _ (ih (u / 10) (by omega))]
      simp only [Lib.decFrom, digitVal_of (show u % 10 < 10 by omega), Option.some.injEq]
      omega

theorem decDigits_head (u : Nat) : ∃ c r, Lib.decDigits u = c :: r ∧ 48 ≤ c.toNat ∧ c.toNat ≤ 57 := by
  cases h : Lib.decDigits u with
  | nil =>
    have h1 := Lib.decDigits_length u
    have h2 := Lib.nDigits_pos u
    rw [h] at h1
    simp at h1
    omega
  | cons c r =>
    obtain ⟨d, hd⟩ := Lib.digit_of_decFrom (c :: r) 0 u (by rw [← h]; exact decFrom_dec u) 0 c rfl
    obtain ⟨h1, h2, _⟩ := Lib.digitVal_eq hd
    exact ⟨c, r, rfl, h1, h2⟩

theorem nDigits_le : ∀ (k u : Nat), u < 10 ^ (k + 1) → Lib.nDigits u ≤ k + 1
  | 0, u, h => by rw [Lib.nDigits_small (by simpa using h)]; exact Nat.le_refl _
  | k + 1, u, h => by
    by_cases hu : u < 10
    · rw [Lib.nDigits_small hu]; omega
    · rw [Lib.nDigits_big hu]
      rw [Nat.pow_succ] at h
      have := nDigits_le k (u / 10) (by omega)
      omega

theorem decNat_dec (u : Nat) : Lib.decNat (Lib.decDigits u) = some u := by
  obtain ⟨c, r, h, _⟩ := decDigits_head u
  unfold Lib.decNat
  rw [if_neg (by rw [h]; simp)]
  exact decFrom_dec u

theorem byte_ne {c d : UInt8} (h : c.toNat ≠ d.toNat) : (c == d) = false := by
  rw [beq_eq_false_iff_ne]
  rintro rfl
  exact h rfl

/-- The numeral of a number begins with a digit or a sign. -/
theorem itoa_head (n : Int) : ∃ c r, Lib.itoa n = c :: r ∧ (c = 45 ∨ 48 ≤ c.toNat ∧ c.toNat ≤ 57) := by
  unfold Lib.itoa
  split
  · exact ⟨45, _, rfl, Or.inl rfl⟩
  · obtain ⟨c, r, h, h1, h2⟩ := decDigits_head n.toNat
    exact ⟨c, r, h, Or.inr ⟨h1, h2⟩⟩

theorem atoi_itoa {n : Int} (h1 : -999999999999999 ≤ n) (h2 : n ≤ 999999999999999) : Lib.atoiAll (Lib.itoa n) = .ok n := by
  have hl : ∀ u : Nat, u ≤ 999999999999999 → (Lib.decDigits u).length ≤ 15 := fun u hu => by
    rw [Lib.decDigits_length]
    exact nDigits_le 14 u (by have : (10 : Nat) ^ (14 + 1) = 1000000000000000 := by decide
                              omega)
  by_cases hn : n < 0
  · have e : Lib.itoa n = 45 :: Lib.decDigits n.natAbs := by unfold Lib.itoa; rw [if_pos hn]
    have := hl n.natAbs (by omega)
    rw [e, Lib.atoiAll_short _ (by simp; omega)]
    simp only [Lib.atoi, beq_self_eq_true, if_true, decNat_dec, Option.map_some, Lib.NumEnd.ofOption]
    congr 1
    omega
  · have e : Lib.itoa n = Lib.decDigits n.toNat := by unfold Lib.itoa; rw [if_neg hn]
    have := hl n.toNat (by omega)
    rw [e, Lib.atoiAll_short _ (by omega)]
    have hd := decNat_dec n.toNat
    obtain ⟨c, r, h, c1, c2⟩ := decDigits_head n.toNat
    rw [h] at hd ⊢
    have e45 : (c == 45) = false := byte_ne (by show c.toNat ≠ 45; omega)
    have e43 : (c == 43) = false := byte_ne (by show c.toNat ≠ 43; omega)
    simp only [Lib.atoi, e45, e43, hd, Option.map_some, Lib.NumEnd.ofOption, Bool.false_eq_true, if_false]
    congr 1
    omega

/-! Numbers with leading zeros. -/

def padL (u : Int) (k : Nat) : List UInt8 := Lib.repeatL [48] (k - (Lib.itoa u).length) ++ Lib.itoa u

theorem decFrom_zeros (l : List UInt8) : ∀ c, Lib.decFrom 0 (Lib.repeatL [48] c ++ l) = Lib.decFrom 0 l
  | 0 => rfl
  | c + 1 => by
    have h0 : Lib.digitVal 48 = some 0 := by decide
    simp only [Lib.repeatL, List.cons_append, List.nil_append, Lib.decFrom, h0]
    exact decFrom_zeros l c

theorem padL_length (u k : Nat) (h : Lib.nDigits u ≤ k) : (padL u k).length = k := by
  unfold padL
  rw [Lib.itoa_nonneg]
  simp only [List.length_append, Lib.repeatL_length, Lib.decDigits_length, List.length_cons, List.length_nil]
  omega

theorem atoi_pad (u k : Nat) (hk : (padL u k).length ≤ 18) : Lib.atoiAll (padL u k) = .ok (u : Int) := by
  rw [Lib.atoiAll_short _ hk]
  have hd : Lib.decFrom 0 (padL u k) = some u := by
    unfold padL
    rw [decFrom_zeros, Lib.itoa_nonneg, decFrom_dec]
  obtain ⟨c, r, hcr, c1, c2⟩ : ∃ c r, padL u k = c :: r ∧ 48 ≤ c.toNat ∧ c.toNat ≤ 57 := by
    unfold padL
    rw [Lib.itoa_nonneg]
    cases k - (Lib.decDigits u).length with
    | zero => exact decDigits_head u
    | succ m => exact ⟨48, _, rfl, by decide, by decide⟩
  rw [hcr] at hd ⊢
  have e45 : (c == 45) = false := byte_ne (by show c.toNat ≠ 45; omega)
  have e43 : (c == 43) = false := byte_ne (by show c.toNat ≠ 43; omega)
  have hn : Lib.decNat (c :: r) = some u := by
    unfold Lib.decNat
    rw [if_neg (by simp)]
    exact hd
  simp only [Lib.atoi, e45, e43, hn, Option.map_some, Lib.NumEnd.ofOption, Bool.false_eq_true, if_false]

/-! Moments as texts, and back. -/

def padB (u : Int) (k : Nat) : ByteArray := ⟨(padL u k).toArray⟩

noncomputable def dtextB (n : Int) : ByteArray :=
  padB (dY n) 4 ++ ⟨#[45]⟩ ++ padB (dM n + 1) 2 ++ ⟨#[45]⟩ ++ padB (dD n) 2 ++ ⟨#[84]⟩ ++ padB (hourP n) 2 ++ ⟨#[58]⟩ ++ padB (minP n) 2 ++ ⟨#[58]⟩ ++ padB (secP n) 2

noncomputable def dtextL (n : Int) : List UInt8 :=
  padL (dY n) 4 ++ ([45] ++ (padL (dM n + 1) 2 ++ ([45] ++ (padL (dD n) 2 ++ ([84] ++ (padL (hourP n) 2 ++ ([58] ++ (padL (minP n) 2 ++ ([58] ++ padL (secP n) 2)))))))))

theorem dtext_list (n : Int) : (dtextB n).data.toList = dtextL n := by
  unfold dtextB dtextL padB
  simp [ByteArray.data_append, List.append_assoc]

/-- The number that stands in a text from a place to another. -/
def numAt (s : ByteArray) (a b : Nat) : Option Int :=
  match Lib.atoiAll ((s.data.toList.drop a).take (b - a)) with
  | .ok v => some v
  | _ => none

noncomputable def dreadN (s : ByteArray) : Val :=
  match numAt s 0 4, numAt s 5 7, numAt s 8 10, numAt s 11 13, numAt s 14 16, numAt s 17 19 with
  | some y, some m, some d, some h, some mi, some se => if (dateT y m d h mi se).k = 0 ∨ dtextB (dateT y m d h mi se).n ≠ s then Val.zero else dateT y m d h mi se
  | _, _, _, _, _, _ => Val.zero

noncomputable def dreadV (s : ByteArray) : Val := if s.size ≠ 19 then Val.zero else dreadN s

theorem cut_at {x y z : List UInt8} {a k : Nat} (hx : x.length = a) (hy : y.length = k) : ((x ++ (y ++ z)).drop a).take k = y := by
  rw [List.drop_left' hx, List.take_left' hy]

theorem numAt_cut {s : ByteArray} {a b : Nat} {x y z : List UInt8} {v : Int} (hl : s.data.toList = x ++ (y ++ z)) (hx : x.length = a) (hy : y.length = b - a) (hv : Lib.atoiAll y = .ok v) : numAt s a b = some v := by
  unfold numAt
  rw [hl, cut_at hx hy, hv]

theorem plain4 {n : Int} (h0 : 0 ≤ n) (h1 : n ≤ 253402300799) : Val.plain ⟨4, n, ⟨#[]⟩⟩ = ⟨4, n, ⟨#[]⟩⟩ := by
  have h2 : (⟨#[]⟩ : ByteArray).size = 0 := rfl
  unfold Val.plain
  rw [if_pos (by unfold Val.fine formB rangeB inB; simp [h2, h0, h1])]

theorem year_9999 {n : Int} (h0 : 0 ≤ n) (h1 : n ≤ 253402300799) : 1970 ≤ dY n ∧ dY n ≤ 9999 ∧ dM n < 12 ∧ 1 ≤ dD n ∧ dD n ≤ mdays (dY n) (dM n + 1) ∧ yday (dY n) + mstart (dY n) (dM n) + dD n - 1 = n / 86400 := by
  obtain ⟨y, hy⟩ := year_exists (n / 86400) (by omega)
  have e : y = dY n := yearOf_is hy
  subst e
  obtain ⟨h3, h4, h5⟩ := hy
  have h7 := yday_succ (dY n)
  obtain ⟨m, hm⟩ := month_exists (dY n) (n / 86400 - yday (dY n)) (by omega) (by omega)
  have e : m = dM n := monthOf_is hm
  subst e
  obtain ⟨k1, k2, k3⟩ := hm
  have k4 : mstart (dY n) (dM n + 1) = mstart (dY n) (dM n) + mdays (dY n) (dM n + 1) := rfl
  refine ⟨h3, ?_, k1, by unfold dD; omega, by unfold dD; omega, by unfold dD; omega⟩
  have h10 : yday 10000 = 2932897 := by decide
  by_cases h : dY n ≤ 9999
  · exact h
  · have := yday_mono (show (10000 : Int) ≤ dY n by omega)
    omega

theorem inB_of {n a b : Int} (h1 : a ≤ n) (h2 : n ≤ b) : inB n a b = true := by
  unfold inB
  simp [h1, h2]

theorem dateT_back {n : Int} (h0 : 0 ≤ n) (h1 : n ≤ 253402300799) : dateT (dY n) (dM n + 1) (dD n) (hourP n) (minP n) (secP n) = ⟨4, n, ⟨#[]⟩⟩ := by
  obtain ⟨y1, y2, m1, d1, d2, hD⟩ := year_9999 h0 h1
  have hh : 0 ≤ hourP n ∧ hourP n ≤ 23 := by unfold hourP; omega
  have hm : 0 ≤ minP n ∧ minP n ≤ 59 := by unfold minP; omega
  have hs : 0 ≤ secP n ∧ secP n ≤ 59 := by unfold secP; omega
  rw [dateT_true (inB_of y1 y2) (inB_of (by omega) (by omega)) (inB_of d1 d2) (inB_of hh.1 hh.2) (inB_of hm.1 hm.2) (inB_of hs.1 hs.2)]
  have e : ((dM n : Int) + 1 - 1).toNat = dM n := by omega
  rw [e, hD]
  have e2 : ((n / 86400 * 24 + hourP n) * 60 + minP n) * 60 + secP n = n := by unfold hourP minP secP; omega
  rw [e2]
  exact plain4 h0 h1

theorem dread_dtext {n : Int} (h0 : 0 ≤ n) (h1 : n ≤ 253402300799) : dreadV (dtextB n) = ⟨4, n, ⟨#[]⟩⟩ := by
  obtain ⟨y1, y2, m1, d1, d2, _⟩ := year_9999 h0 h1
  have hdl := mdays_le (dY n) (dM n + 1)
  have hh : 0 ≤ hourP n ∧ hourP n ≤ 23 := by unfold hourP; omega
  have hm : 0 ≤ minP n ∧ minP n ≤ 59 := by unfold minP; omega
  have hs : 0 ≤ secP n ∧ secP n ≤ 59 := by unfold secP; omega
  have two : ∀ u : Int, 0 ≤ u → u ≤ 99 → (padL u 2).length = 2 ∧ Lib.atoiAll (padL u 2) = .ok u := fun u hu1 hu2 => by
    obtain ⟨k, rfl⟩ := Int.eq_ofNat_of_zero_le hu1
    have hl := padL_length k 2 (nDigits_le 1 k (by have : (10 : Nat) ^ (1 + 1) = 100 := by decide
                                                   omega))
    exact ⟨hl, atoi_pad k 2 (by omega)⟩
  have four : (padL (dY n) 4).length = 4 ∧ Lib.atoiAll (padL (dY n) 4) = .ok (dY n) := by
    obtain ⟨k, hk⟩ := Int.eq_ofNat_of_zero_le (show 0 ≤ dY n by omega)
    rw [hk]
    have hl := padL_length k 4 (nDigits_le 3 k (by have : (10 : Nat) ^ (3 + 1) = 10000 := by decide
                                                   omega))
    exact ⟨hl, atoi_pad k 4 (by omega)⟩
  obtain ⟨l0, a0⟩ := four
  obtain ⟨l1, a1⟩ := two (dM n + 1) (by omega) (by omega)
  obtain ⟨l2, a2⟩ := two (dD n) (by omega) (by omega)
  obtain ⟨l3, a3⟩ := two (hourP n) (by omega) (by omega)
  obtain ⟨l4, a4⟩ := two (minP n) (by omega) (by omega)
  obtain ⟨l5, a5⟩ := two (secP n) (by omega) (by omega)
  have hsz : (dtextB n).size = 19 := by
    rw [Lib.size_eq, dtext_list]
    unfold dtextL
    simp [l0, l1, l2, l3, l4, l5]
  have b0 : numAt (dtextB n) 0 4 = some (dY n) := numAt_cut (x := []) (y := padL (dY n) 4) (by rw [dtext_list]; simp only [List.nil_append]; rfl) rfl l0 a0
  have b1 : numAt (dtextB n) 5 7 = some (dM n + 1) := numAt_cut (x := padL (dY n) 4 ++ ([45])) (y := padL (dM n + 1) 2) (by rw [dtext_list]; simp only [List.append_assoc]; rfl) (by simp [l0]) l1 a1
  have b2 : numAt (dtextB n) 8 10 = some (dD n) := numAt_cut (x := padL (dY n) 4 ++ ([45] ++ (padL (dM n + 1) 2 ++ ([45])))) (y := padL (dD n) 2) (by rw [dtext_list]; simp only [List.append_assoc]; rfl) (by simp [l0, l1]) l2 a2
  have b3 : numAt (dtextB n) 11 13 = some (hourP n) := numAt_cut (x := padL (dY n) 4 ++ ([45] ++ (padL (dM n + 1) 2 ++ ([45] ++ (padL (dD n) 2 ++ ([84])))))) (y := padL (hourP n) 2) (by rw [dtext_list]; simp only [List.append_assoc]; rfl) (by simp [l0, l1, l2]) l3 a3
  have b4 : numAt (dtextB n) 14 16 = some (minP n) := numAt_cut (x := padL (dY n) 4 ++ ([45] ++ (padL (dM n + 1) 2 ++ ([45] ++ (padL (dD n) 2 ++ ([84] ++ (padL (hourP n) 2 ++ ([58])))))))) (y := padL (minP n) 2) (by rw [dtext_list]; simp only [List.append_assoc]; rfl) (by simp [l0, l1, l2, l3]) l4 a4
  have b5 : numAt (dtextB n) 17 19 = some (secP n) := numAt_cut (x := padL (dY n) 4 ++ ([45] ++ (padL (dM n + 1) 2 ++ ([45] ++ (padL (dD n) 2 ++ ([84] ++ (padL (hourP n) 2 ++ ([58] ++ (padL (minP n) 2 ++ ([58])))))))))) (y := padL (secP n) 2) (z := []) (by rw [dtext_list]; simp only [List.append_assoc, List.append_nil]; rfl) (by simp [l0, l1, l2, l3, l4]) l5 a5
  unfold dreadV
  rw [if_neg (by simp [hsz])]
  unfold dreadN
  rw [b0, b1, b2, b3, b4, b5]
  show (if (dateT (dY n) (dM n + 1) (dD n) (hourP n) (minP n) (secP n)).k = 0 ∨ dtextB (dateT (dY n) (dM n + 1) (dD n) (hourP n) (minP n) (secP n)).n ≠ dtextB n then Val.zero else dateT (dY n) (dM n + 1) (dD n) (hourP n) (minP n) (secP n)) = _
  rw [dateT_back h0 h1]
  exact if_neg (by rintro (h | h); exact absurd (show (4 : Int) = 0 from h) (by decide); exact h rfl)

/-! What a text is the text of. -/

def trueB : ByteArray := ⟨#[116, 114, 117, 101]⟩
def falseB : ByteArray := ⟨#[102, 97, 108, 115, 101]⟩

def quotedB (s : ByteArray) : Bool := decide (2 ≤ s.size) && ((s.data.toList.head? == some 39) && (s.data.toList.getLast? == some 39))

noncomputable def candV (s : ByteArray) : Val :=
  if s = trueB ∨ s = falseB then boolV (decide (s = trueB))
  else if quotedB s then ⟨3, 0, ⟨(Lib.replaceAll ((s.data.toList.drop 1).take (s.size - 1 - 1)) [39, 39] [39]).toArray⟩⟩
  else if Lib.hasPrefix s.data.toList [64] then dreadV (s.extract 1 s.size)
  else match Lib.atoiAll s.data.toList with
    | .ok v => ⟨2, v, ⟨#[]⟩⟩
    | _ => Val.zero

def itoaB (n : Int) : ByteArray := ⟨(Lib.itoa n).toArray⟩

theorem cand_itoa {n : Int} (h1 : -999999999999999 ≤ n) (h2 : n ≤ 999999999999999) : candV (itoaB n) = ⟨2, n, ⟨#[]⟩⟩ := by
  have hl : (itoaB n).data.toList = Lib.itoa n := by unfold itoaB; simp
  have ha := atoi_itoa h1 h2
  obtain ⟨c, r, hcr, hc⟩ := itoa_head n
  have hne : ∀ d : UInt8, 57 < d.toNat ∨ d.toNat < 45 → c ≠ d := fun d hd e => by
    subst e
    rcases hc with rfl | ⟨c1, c2⟩
    · rcases hd with hd | hd <;> simp at hd
    · omega
  have n1 : itoaB n ≠ trueB := fun e => by
    have := congrArg (fun x : ByteArray => x.data.toList) e
    simp only [hl, hcr, trueB] at this
    exact hne 116 (by decide) (List.cons.inj this).1
  have n2 : itoaB n ≠ falseB := fun e => by
    have := congrArg (fun x : ByteArray => x.data.toList) e
    simp only [hl, hcr, falseB] at this
    exact hne 102 (by decide) (List.cons.inj this).1
  have n3 : quotedB (itoaB n) = false := by
    unfold quotedB
    rw [hl, hcr]
    have : ((c :: r).head? == some (39 : UInt8)) = false := by
      simp only [List.head?_cons]
      rw [beq_eq_false_iff_ne]
      exact fun e => hne 39 (by decide) (Option.some.inj e)
    rw [this]
    simp
  have n4 : Lib.hasPrefix (itoaB n).data.toList [64] = false := by
    rw [hl, hcr]
    unfold Lib.hasPrefix
    have : ((64 : UInt8) == c) = false := by rw [beq_eq_false_iff_ne]; exact Ne.symm (hne 64 (by decide))
    simp [this, List.isPrefixOf]
  unfold candV
  rw [if_neg (by simp [n1, n2]), n3, n4, hl, ha]
  rfl

theorem cand_true : candV trueB = boolV true := by
  unfold candV
  simp

theorem cand_false : candV falseB = boolV false := by
  have : ¬ falseB = trueB := by decide
  unfold candV
  simp [this]

/-! Casts. -/

noncomputable def shownV (x : Val) : ByteArray := if x.k = 3 then x.s else if x.k = 4 then dtextB x.n else if x.k = 1 then (if x.n = 1 then trueB else falseB) else itoaB x.n

noncomputable def readT (s : ByteArray) (k : Int) : Val := if k = 4 then dreadV s else candV s

open Classical in
noncomputable def fromV (s : ByteArray) (k : Int) : Val := if (readT s k).fine = true ∧ (readT s k).k = k ∧ shownV (readT s k) = s then readT s k else Val.zero

def textV (s : ByteArray) : Val := Val.plain ⟨3, 0, s⟩

def canB (a b : Int) : Bool := inB a 1 4 && inB b 1 4 && !((a == 1) && (b == 4) || (a == 4) && (b == 1))

noncomputable def castV (a : Val) (k : Int) : Val :=
  if a.plain.k = 0 ∨ canB a.plain.k k = false then Val.zero
  else if a.plain.k = k then a.plain
  else if k = 3 then textV (shownV a.plain)
  else if a.plain.k = 3 then fromV a.plain.s k
  else if k = 1 then boolV (decide (a.plain.n ≠ 0))
  else numV k a.plain.n

theorem plain_k {x : Val} (h : x.plain.k ≠ 0) : x.fine = true ∧ x.plain = x := by
  unfold Val.plain at h ⊢
  cases hf : x.fine with
  | false => rw [hf] at h; exact absurd rfl h
  | true => exact ⟨rfl, rfl⟩

/-- What a right value is. -/
theorem fine_is {x : Val} (h : x.fine = true) (h0 : x.k ≠ 0) : (x.k = 1 ∧ (x.n = 0 ∨ x.n = 1) ∧ x.s = ⟨#[]⟩) ∨ (x.k = 2 ∧ (-999999999999999 ≤ x.n ∧ x.n ≤ 999999999999999) ∧ x.s = ⟨#[]⟩) ∨ (x.k = 3 ∧ x.n = 0) ∨ (x.k = 4 ∧ (0 ≤ x.n ∧ x.n ≤ 253402300799) ∧ x.s = ⟨#[]⟩) := by
  obtain ⟨k, n, s⟩ := x
  simp only [Val.fine, formB, rangeB] at h h0 ⊢
  by_cases h3 : k = 3
  · subst h3
    simp at h
    exact Or.inr (Or.inr (Or.inl ⟨rfl, h.1.1⟩))
  · have hk0 : (k == 0) = false := by simpa using h0
    have hk3 : (k == 3) = false := by simpa using h3
    simp only [hk0, hk3, Bool.false_eq_true, if_false, Bool.and_eq_true, List.isEmpty_iff] at h
    obtain ⟨⟨⟨hk, hs⟩, _⟩, hr⟩ := h
    have hs' := empty_of hs
    obtain ⟨k1, k4⟩ := inB_true hk
    rcases (show k = 1 ∨ k = 2 ∨ k = 4 by omega) with rfl | rfl | rfl
    · have := inB_true (show inB n 0 1 = true from hr)
      exact Or.inl ⟨rfl, by omega, hs'⟩
    · exact Or.inr (Or.inl ⟨rfl, inB_true (show inB n (-999999999999999) 999999999999999 = true from hr), hs'⟩)
    · exact Or.inr (Or.inr (Or.inr ⟨rfl, inB_true (show inB n 0 253402300799 = true from hr), hs'⟩))

theorem canB_comm (a b : Int) : canB a b = canB b a := by
  unfold canB
  cases (a == 1) <;> cases (b == 1) <;> cases (a == 4) <;> cases (b == 4) <;> cases inB a 1 4 <;> cases inB b 1 4 <;> rfl

theorem cast_not (a : Val) (k : Int) (h : canB a.plain.k k = false) : castV a k = Val.zero := by
  unfold castV
  rw [if_pos (Or.inr h)]

/-- What may be cast: what the cast is then. -/
theorem castV_is {a : Val} {k : Int} (h0 : a.k ≠ 0) (hp : a.plain = a) (hc : canB a.k k = true) : castV a k = if a.k = k then a else if k = 3 then textV (shownV a) else if a.k = 3 then fromV a.s k else if k = 1 then boolV (decide (a.n ≠ 0)) else numV k a.n := by
  unfold castV
  rw [hp, if_neg (by rintro (h | h); exact h0 h; rw [hc] at h; cases h)]

theorem shown4 (n : Int) : shownV ⟨4, n, ⟨#[]⟩⟩ = dtextB n := by
  unfold shownV
  rw [if_neg (show ¬ (4 : Int) = 3 by decide), if_pos rfl]

theorem shown2 (n : Int) : shownV ⟨2, n, ⟨#[]⟩⟩ = itoaB n := by
  unfold shownV
  rw [if_neg (show ¬ (2 : Int) = 3 by decide), if_neg (show ¬ (2 : Int) = 4 by decide), if_neg (show ¬ (2 : Int) = 1 by decide)]

theorem shown1 (n : Int) : shownV ⟨1, n, ⟨#[]⟩⟩ = if n = 1 then trueB else falseB := by
  unfold shownV
  rw [if_neg (show ¬ (1 : Int) = 3 by decide), if_neg (show ¬ (1 : Int) = 4 by decide), if_pos rfl]

theorem read4 (s : ByteArray) : readT s 4 = dreadV s := by
  unfold readT
  rw [if_pos rfl]

theorem readT_not {s : ByteArray} {k : Int} (h : ¬ k = 4) : readT s k = candV s := by
  unfold readT
  rw [if_neg h]

theorem shown_back {a : Val} (hf : a.fine = true) (h0 : a.k ≠ 0) (h3 : a.k ≠ 3) : fromV (shownV a) a.k = a := by
  have key : readT (shownV a) a.k = a := by
    rcases fine_is hf h0 with ⟨hk, hn, hs⟩ | ⟨hk, hn, hs⟩ | ⟨hk, _⟩ | ⟨hk, hn, hs⟩
    · obtain ⟨k, n, s⟩ := a
      simp only at hk hn hs
      subst hk hs
      rcases hn with rfl | rfl
      · rw [readT_not (show ¬ (1 : Int) = 4 by decide), shown1 0, if_neg (by decide)]; exact cand_false
      · rw [readT_not (show ¬ (1 : Int) = 4 by decide), shown1 1, if_pos rfl]; exact cand_true
    · obtain ⟨k, n, s⟩ := a
      simp only at hk hn hs
      subst hk hs
      rw [readT_not (show ¬ (2 : Int) = 4 by decide), shown2]
      exact cand_itoa hn.1 hn.2
    · exact absurd hk h3
    · obtain ⟨k, n, s⟩ := a
      simp only at hk hn hs
      subst hk hs
      rw [read4, shown4]
      exact dread_dtext hn.1 hn.2
  unfold fromV
  rw [key]
  exact if_pos (And.intro hf (And.intro (Eq.refl a.k) (Eq.refl (shownV a))))

theorem plain_of {a : Val} (h : a.fine = true) : a.plain = a := by
  unfold Val.plain
  rw [if_pos h]

theorem numV_is {k n : Int} (h : (numV k n).k ≠ 0) : numV k n = ⟨k, n, ⟨#[]⟩⟩ ∧ Val.fine ⟨k, n, ⟨#[]⟩⟩ = true := by
  obtain ⟨h1, h2⟩ := plain_k h
  exact ⟨h2, h1⟩

theorem cast_back {v : Val} {k : Int} (hk : 1 ≤ k ∧ k ≤ 4) (hne : ¬ (v.k = 2 ∧ k = 1)) (hw : (castV v k).k ≠ 0) : castV (castV v k) v.k = v := by
  by_cases hp0 : v.plain.k = 0
  · exact absurd (by unfold castV; rw [if_pos (Or.inl hp0)]; rfl) hw
  obtain ⟨hf, hp⟩ := plain_k hp0
  rw [hp] at hp0
  by_cases hc : canB v.k k = true
  rotate_left
  · exact absurd (by unfold castV; rw [hp, if_pos (Or.inr (by simpa using hc))]; rfl) hw
  have hc' : canB k v.k = true := by rw [canB_comm]; exact hc
  have h1 := castV_is hp0 hp hc
  by_cases hkk : v.k = k
  · rw [if_pos hkk] at h1
    rw [h1, hkk]
    exact h1
  rw [if_neg hkk] at h1
  by_cases k3 : k = 3
  · rw [if_pos k3] at h1
    have hv3 : v.k ≠ 3 := fun h => hkk (h.trans k3.symm)
    rw [h1] at hw ⊢
    obtain ⟨hwf, hwp⟩ := plain_k hw
    have e : textV (shownV v) = ⟨3, 0, shownV v⟩ := hwp
    rw [e]
    rw [castV_is (a := ⟨3, 0, shownV v⟩) (by simp) hwp (by rw [k3] at hc'; exact hc'), if_neg (Ne.symm hv3), if_neg hv3, if_pos rfl]
    exact shown_back hf hp0 hv3
  rw [if_neg k3] at h1
  by_cases v3 : v.k = 3
  · rw [if_pos v3] at h1
    rw [h1] at hw ⊢
    have hcond : (readT v.s k).fine = true ∧ (readT v.s k).k = k ∧ shownV (readT v.s k) = v.s := by
      by_cases h : (readT v.s k).fine = true ∧ (readT v.s k).k = k ∧ shownV (readT v.s k) = v.s
      · exact h
      · exact absurd (by unfold fromV; rw [if_neg h]; rfl) hw
    have e : fromV v.s k = readT v.s k := by unfold fromV; rw [if_pos hcond]
    obtain ⟨rf, rk, rs⟩ := hcond
    have hv : v = ⟨3, 0, v.s⟩ := by
      rcases fine_is hf hp0 with ⟨h, _⟩ | ⟨h, _⟩ | ⟨_, hn⟩ | ⟨h, _⟩
      · omega
      · omega
      · obtain ⟨a, b, c⟩ := v
        simp only at v3 hn
        rw [v3, hn]
      · omega
    rw [e]
    generalize readT v.s k = r at rf rk rs
    rw [v3] at hc' ⊢
    rw [castV_is (a := r) (by omega) (plain_of rf) (by rw [rk]; exact hc'), if_neg (by omega), if_pos rfl, rs]
    unfold textV
    rw [← hv, hp]
  rw [if_neg v3] at h1
  by_cases k1 : k = 1
  · exfalso
    subst k1
    rcases fine_is hf hp0 with ⟨h, _⟩ | ⟨h, _⟩ | ⟨h, _⟩ | ⟨h, _⟩
    · exact hkk h
    · exact hne ⟨h, rfl⟩
    · exact v3 h
    · rw [h] at hc; exact absurd hc (by decide)
  rw [if_neg k1] at h1
  rw [h1] at hw ⊢
  obtain ⟨e, ef⟩ := numV_is hw
  rw [e]
  have hk0 : k ≠ 0 := by omega
  rw [castV_is (a := ⟨k, v.n, ⟨#[]⟩⟩) hk0 (plain_of ef) hc', if_neg (Ne.symm hkk), if_neg v3, if_neg k3]
  have hv : v = ⟨v.k, v.n, ⟨#[]⟩⟩ := by
    rcases fine_is hf hp0 with ⟨_, _, hs⟩ | ⟨_, _, hs⟩ | ⟨h, _⟩ | ⟨_, _, hs⟩
    · obtain ⟨a, b, c⟩ := v; simp only at hs ⊢; rw [hs]
    · obtain ⟨a, b, c⟩ := v; simp only at hs ⊢; rw [hs]
    · exact absurd h v3
    · obtain ⟨a, b, c⟩ := v; simp only at hs ⊢; rw [hs]
  by_cases v1 : v.k = 1
  · rw [if_pos v1]
    rcases fine_is hf hp0 with ⟨_, hn, hs⟩ | ⟨h, _⟩ | ⟨h, _⟩ | ⟨h, _⟩
    · obtain ⟨a, b, c⟩ := v
      simp only at v1 hn hs
      subst v1 hs
      rcases hn with rfl | rfl <;> rfl
    · omega
    · omega
    · omega
  · rw [if_neg v1]
    unfold numV
    rw [← hv, hp]

end Go.Proofs
