/- Of packages value and the document's: sizes of expressions; kinds that fit. No condition. -/
import Derived.Test.YtkpligcifakmjaaGreatDoorExSz
import Derived.Test.YtkpligcifakmjaaGreatDoorPc
import Derived.Laws.StructEq
namespace Go.Proofs
open Go.RowKit Go.Ke

def arityN (op : Int) : Int :=
  if (op == 1) || (op == 11) || (op == 17) || (op == 20) || (op == 21) || (op == 22) || (op == 25) || (op == 26) || (op == 27) then 1 else if op == 23 then 3 else if op == 24 then -1 else 2

theorem Tryz.arity (op : Int) (w : World) : Calls Tryz.prog 217 #[.int .i64 op] w fun e w' => e = .returned (.int .i64 (arityN op)) ∧ w' = w := by
  go_enter Tryz.func217, Tryz.ntmps217
  go_wp2
  all_goals
    go_ret
    refine ⟨congrArg (fun z => Ending.returned (.int .i64 z)) ?_, rfl⟩
    show _ = arityN op
    unfold arityN
    first | (simp [*]; done) | (simp only [*]; rfl)

def usesB (op : Int) : Bool := inB op 25 27

theorem Tryz.uses (op : Int) (w : World) : Calls Tryz.prog 158 #[.int .i64 op] w fun e w' => e = .returned (.bool (usesB op)) ∧ w' = w := by
  go_enter Tryz.func158, Tryz.ntmps158
  go_wp2_with (first | (go_at_call 48; refine (Tryz.within _ _ _ _).mono ?_; rintro e w' ⟨rfl, rfl⟩))
  go_ret
  exact ⟨rfl, rfl⟩

def rightNB (op n : Int) : Bool := if (op == 25) || (op == 26) then inB n 1 6 else if op == 27 then inB n 1 4 else true

theorem Tryz.rightN (op n : Int) (w : World) : Calls Tryz.prog 121 #[.int .i64 op, .int .i64 n] w fun e w' => e = .returned (.bool (rightNB op n)) ∧ w' = w := by
  go_enter Tryz.func121, Tryz.ntmps121
  go_wp2_with (first | (go_at_call 48; refine (Tryz.within _ _ _ _).mono ?_; rintro e w' ⟨rfl, rfl⟩))
  all_goals
    go_ret
    refine ⟨congrArg (fun z => Ending.returned (.bool z)) ?_, rfl⟩
    show _ = rightNB op n
    unfold rightNB
    simp [*]

def canB (a b : Int) : Bool := inB a 1 4 && inB b 1 4 && !((a == 1 && b == 4) || (a == 4 && b == 1))

theorem Tryz.can (a b : Int) (w : World) : Calls Tryz.prog 162 #[.int .i64 a, .int .i64 b] w fun e w' => e = .returned (.bool (canB a b)) ∧ w' = w := by
  go_enter Tryz.func162, Tryz.ntmps162
  go_wp2_with (first | (go_at_call 48; refine (Tryz.within _ _ _ _).mono ?_; rintro e w' ⟨rfl, rfl⟩))
  all_goals
    go_ret
    refine ⟨congrArg (fun z => Ending.returned (.bool z)) ?_, rfl⟩
    show _ = canB a b
    unfold canB
    first | (simp [*]; done) | grind

theorem Tryz.canCast (a b : Int) (w : World) : Calls Tryz.prog 114 #[.int .i64 a, .int .i64 b] w fun e w' => e = .returned (.bool (canB a b)) ∧ w' = w := by
  go_enter Tryz.func114, Tryz.ntmps114
  go_wp2_with (first | (go_at_call 57; refine (Tryz.within2 _ _ _ _).mono ?_; rintro e w' ⟨rfl, rfl⟩))
  all_goals
    go_ret
    refine ⟨congrArg (fun z => Ending.returned (.bool z)) ?_, rfl⟩
    show _ = canB a b
    unfold canB
    first | (simp [*]; done) | grind

theorem Tryz.numbered (op : Int) (w : World) : Calls Tryz.prog 137 #[.int .i64 op] w fun e w' => e = .returned (.bool (decide (25 ≤ op))) ∧ w' = w := by
  go_enter Tryz.func137, Tryz.ntmps137
  go_wp2
  go_ret
  exact ⟨rfl, rfl⟩

def argsLo (op : Int) : Int := if op == 24 then 2 else if op == 23 then 3 else if (op == 1) || (op == 11) || (op == 17) || decide (20 ≤ op) then 1 else 2
def argsHi (op : Int) : Int := if op == 24 then 1152921504606846976 else if op == 23 then 3 else if (op == 1) || (op == 11) || (op == 17) || decide (20 ≤ op) then 1 else 2

theorem Tryz.argsOf (op : Int) (w : World) : Calls Tryz.prog 164 #[.int .i64 op] w fun e w' => e = .returned (.tuple #[.int .i64 (argsLo op), .int .i64 (argsHi op)]) ∧ w' = w := by
  go_enter Tryz.func164, Tryz.ntmps164
  go_wp2
  all_goals
    go_ret2
    refine ⟨?_, rfl⟩
    unfold argsLo argsHi
    simp [*]
    try grind

def opText : ByteArray := "not and or equal unequal less atmost greater atleast same null add sub mul div mod neg concat like lower upper length part coalesce trunc unit cast".toUTF8

theorem opText_ascii : opText.data.toList.all (fun b => Nat.blt b.toNat 128) = true := by kernel_rfl
theorem opText_len : (Lib.fields opText.data.toList).length = 27 := by kernel_rfl
theorem opText_some : (Lib.fields opText.data.toList).all (fun l => !l.isEmpty) = true := by kernel_rfl
theorem opText_size : opText.size < 4294967281 := Nat.le_of_ble_eq_true (by kernel_rfl)

/-- The name of an operation. -/
def opNameS (op : Int) : ByteArray := if inB op 1 27 then ⟨((Lib.fields opText.data.toList).getD (op - 1).toNat []).toArray⟩ else ⟨#[]⟩

theorem opNameS_law (op : Int) : (opNameS op).toList.isEmpty = !inB op 1 27 := by
  unfold opNameS
  by_cases h : inB op 1 27 = true
  · rw [if_pos h, h]
    have hlt : (op - 1).toNat < (Lib.fields opText.data.toList).length := by
      rw [opText_len]; unfold inB at h; simp at h; omega
    have := List.all_eq_true.mp opText_some _ (List.getElem_mem hlt)
    rw [List.getD_eq_getElem?_getD, List.getElem?_eq_getElem hlt, Option.getD_some, ByteArray.toList_eq]
    cases hx : (Lib.fields opText.data.toList)[(op - 1).toNat] with
    | nil => rw [hx] at this; simp at this
    | cons a l => simp
  · have h := eq_false_of_ne_true h
    rw [h]
    simp [ByteArray.toList_eq]

set_option maxRecDepth 20000 in
theorem Tryz.opName (op : Int) (w : World) (hJ : spaceTab w.heap.size w) : Calls Tryz.prog 157 #[.int .i64 op] w fun e w' => e = .returned (.string (opNameS op)) ∧ Below w.heap.size w w' := by
  by_cases hin : inB op 1 27 = true
  · obtain ⟨j, rfl⟩ : ∃ j : Nat, op = (j : Int) + 1 := ⟨(op - 1).toNat, by unfold inB at hin; simp at hin; omega⟩
    have hj : j < (Lib.fields opText.data.toList).length := by rw [opText_len]; unfold inB at hin; simp at hin; omega
    have hF := Tryz.strings_Fields opText w opText_size (fun k b hb => by
      have := List.all_eq_true.mp opText_ascii b (List.mem_of_getElem? hb)
      exact Nat.le_of_ble_eq_true this) hJ.here
    obtain ⟨x, hx⟩ : ∃ x, (Lib.fields opText.data.toList)[j]? = some x := ⟨_, List.getElem?_eq_getElem hj⟩
    have hres : opNameS ((j : Int) + 1) = ⟨x.toArray⟩ := by
      unfold opNameS
      rw [if_pos hin]
      have : ((j : Int) + 1 - 1).toNat = j := by omega
      rw [this, List.getD_eq_getElem?_getD, hx, Option.getD_some]
    replace hres := Lib.hid hres
    generalize hL : Lib.fields opText.data.toList = L at hj hF hx
    have hlen : L.length = 27 := by rw [← hL, opText_len]
    clear hL
    go_enter Tryz.func157, Tryz.ntmps157
    go_wp2_with (first
      | (go_at_call 48; refine (Tryz.within _ _ _ _).mono ?_; rintro e w' ⟨rfl, rfl⟩)
      | (go_at_call 216; refine hF.mono ?_; rintro e w' ⟨rfl, rfl⟩))
    go_ret
    exact ⟨congrArg (fun z => Ending.returned (.string z)) hres.out.symm, (Below.refl _ _).alloc (Nat.le_refl _) _⟩
  · have hno := eq_false_of_ne_true hin
    have hres : opNameS op = ⟨#[]⟩ := by unfold opNameS; rw [hno]; rfl
    replace hres := Lib.hid hres
    go_enter Tryz.func157, Tryz.ntmps157
    go_wp2_with (first
      | (go_at_call 48; refine (Tryz.within _ _ _ _).mono ?_; rintro e w' ⟨rfl, rfl⟩))
    go_ret
    exact ⟨congrArg (fun z => Ending.returned (.string z)) hres.out.symm, Below.refl _ _⟩

def rightArgsB (k op : Int) (n : Nat) : Bool :=
  if k == 4 then (if decide (0 ≤ arityN op) then (n : Int) == arityN op else decide (2 ≤ (n : Int)))
  else if k == 5 then decide (3 ≤ (n : Int)) && ((n : Int).tmod 2 == 1)
  else if k == 6 then decide (2 ≤ (n : Int)) else (n : Int) == 0

set_option maxRecDepth 20000 in
theorem Tryz.rightArgs (x : Node) (ad : Option Addr) (n cap : Nat) (w : World) : Calls Tryz.prog 159 #[x.v (.slice ad n cap)] w fun e w' => e = .returned (.bool (rightArgsB x.k x.op n)) ∧ Below w.heap.size w w' := by
  have hw0 : Below w.heap.size w (w.alloc (.cells (x.cells (.slice ad n cap)) 57)) := (Below.refl _ _).alloc (Nat.le_refl _) _
  have hB0 : Box (w.alloc (.cells (x.cells (.slice ad n cap)) 57)) w.heap.size x (.slice ad n cap) := Box.new _ _ _
  unfold Node.v
  go_enter Tryz.func159, Tryz.ntmps159
  go_upto_region 1 with fail
  generalize w.alloc (.cells (x.cells (.slice ad n cap)) 57) = W1 at hB0 hw0 ⊢
  obtain ⟨c0, c1, c2, c3, c4, c5, c6, c7, c8, c9, c10, c11, c12⟩ := hB0.is
  go_wp2_with (first | (go_at_call 217; refine (Tryz.arity _ _).mono ?_; rintro e w' ⟨rfl, rfl⟩))
  all_goals
    go_ret
    refine ⟨congrArg (fun z => Ending.returned (.bool z)) ?_, hw0⟩
    show _ = rightArgsB _ _ _
    unfold rightArgsB
    first | (simp [*]; done) | grind

theorem guard23 (op : BinOp) (x y : Operand) (k n k' n' : Int) (s s' : ByteArray) (W : World) :
    (eqGuard op 23 x y (.agg #[.int .i64 k, .int .i64 n, .string s]) (.agg #[.int .i64 k', .int .i64 n', .string s'])).run Tryz.prog W = .ok () W :=
  run_eqGuard_agg W op 23 x y _ _ (by kernel_rfl)

def eq3 (k n : Int) (s : ByteArray) (k' n' : Int) (s' : ByteArray) : Bool := (k == k') && ((n == n') && (s.toList == s'.toList))

theorem eqIn23 (k n : Int) (s : ByteArray) (k' n' : Int) (s' : ByteArray) (W : World) :
    (Op.equalIn 10000 23 (.agg #[.int .i64 k, .int .i64 n, .string s]) (.agg #[.int .i64 k', .int .i64 n', .string s'])).run Tryz.prog W = .ok (eq3 k n s k' n' s') W := by
  have hf : Tryz.prog.underlying 23 = some (.struct (Tryz.prog.fieldsOf 23)) := by kernel_rfl
  unfold eq3
  rw [show (10000 : Nat) = 9999 + 1 from rfl, run_equalIn_agg W 9999 23 _ _ hf (by kernel_rfl)]
  simp [go_sem, Tryz.underlying23, Tryz.underlying3, Tryz.underlying9]
  by_cases h1 : k = k' <;> by_cases h2 : n = n' <;> by_cases h3 : s.toList = s'.toList <;> simp [h1, h2, h3]

theorem eql23 (k n : Int) (s : ByteArray) (k' n' : Int) (s' : ByteArray) (W : World) :
    (binOp .eql 23 (.agg #[.int .i64 k, .int .i64 n, .string s]) (.agg #[.int .i64 k', .int .i64 n', .string s'])).run Tryz.prog W = .ok (.bool (eq3 k n s k' n' s')) W := by
  rw [run_eql_struct, eqIn23]
  simp

theorem neq23 (k n : Int) (s : ByteArray) (k' n' : Int) (s' : ByteArray) (W : World) :
    (binOp .neq 23 (.agg #[.int .i64 k, .int .i64 n, .string s]) (.agg #[.int .i64 k', .int .i64 n', .string s'])).run Tryz.prog W = .ok (.bool (!eq3 k n s k' n' s')) W := by
  rw [run_neq_struct, eqIn23]
  simp


def formN (x : Node) (n : Nat) : Int :=
  if !(inB x.k 1 6 && ((x.k != 4) || inB x.op 1 27)) then 4
  else if ((x.k != 4) && (x.op != 0)) || (!((x.k == 2) || ((x.k == 4) && usesB x.op)) && (x.n != 0)) || ((x.k != 1) && !eq3 x.vk x.vn x.vs 0 0 ⟨#[]⟩) || ((x.k != 3) && !(x.src ++ x.name).toList.isEmpty) || x.dist || !rightArgsB x.k x.op n then 3
  else if x.k != 1 then 0
  else if x.vk == 0 then (if !formB x.vk x.vn x.vs then 3 else 0)
  else if !inB x.vk 1 4 then 3
  else checkN x.vk x.vk x.vn x.vs

theorem Box.next {W w2 : World} {g : Nat} {x : Node} {a : Value} (h : Box W g x a) (hb : Below W.heap.size W w2) : Box w2 g x a := (hb.block g (Array.getElem?_eq_some_iff.1 h).1).trans h
theorem below_next {w W w2 : World} (h : Below w.heap.size w W) (hb : Below W.heap.size W w2) : Below w.heap.size w w2 := h.trans (hb.mono h.size)

end Go.Proofs

namespace Go.Proofs
open Go.RowKit Go.Ke

def fitsB : List Int → List Int → Bool
  | _, [] => true
  | [], _ :: _ => true
  | a :: l, k :: ks => ((a == 0) || (a == k)) && fitsB l ks

theorem fitsB_step {l ks : List Int} {j : Nat} (h : j < ks.length) (hl : j < l.length) : fitsB (l.drop j) (ks.drop j) = (((l[j] == 0) || (l[j] == ks[j])) && fitsB (l.drop (j + 1)) (ks.drop (j + 1))) := by
  rw [List.drop_eq_getElem_cons h, List.drop_eq_getElem_cons hl]
  rfl

def commonF : Int → List Int → Int × Bool
  | out, [] => (out, true)
  | out, k :: l => if (out != 0) && ((k != 0) && (k != out)) then (0, false) else commonF (if max out k = 0 then k else max out k) l

def fitsF : Int → List Int → Int × Bool
  | out, [] => (out, true)
  | out, k :: l => if (k == 0) || (k == out) then fitsF out l else if out == 0 then fitsF k l else (0, false)

theorem common_fits : ∀ (l : List Int) (out : Int), 0 ≤ out → (∀ k ∈ l, 0 ≤ k) → commonF out l = fitsF out l
  | [], out, _, _ => rfl
  | k :: l, out, h, hl => by
    have hk := hl k (by simp)
    have ih := fun o (ho : 0 ≤ o) => common_fits l o ho (fun x hx => hl x (by simp [hx]))
    unfold commonF fitsF
    by_cases h0 : k = 0
    · subst h0
      have hm : max out 0 = out := by omega
      simp only [bne_self_eq_false, Bool.false_and, Bool.and_false, Bool.false_eq_true, if_false, beq_self_eq_true, Bool.true_or, if_true, hm]
      by_cases ho : out = 0
      · rw [if_pos ho]; subst ho; exact ih 0 (Int.le_refl _)
      · rw [if_neg ho]; exact ih out h
    · by_cases h1 : k = out
      · subst h1
        have hm : max k k = k := by omega
        simp [hm, h0, ih k hk]
      · by_cases ho : out = 0
        · subst ho
          have hm : max 0 k = k := by omega
          simp [hm, h0, ih k hk]
        · simp [h0, h1, ho]

theorem fitsF_range : ∀ (l : List Int) (out : Int), 0 ≤ out → out ≤ 4 → (∀ k ∈ l, 0 ≤ k ∧ k ≤ 4) → 0 ≤ (fitsF out l).1 ∧ (fitsF out l).1 ≤ 4
  | [], out, h, h4, _ => ⟨h, h4⟩
  | k :: l, out, h, h4, hl => by
    have hk := hl k (by simp)
    have hr := fun x hx => hl x (List.mem_cons_of_mem _ hx)
    unfold fitsF
    split
    · exact fitsF_range l out h h4 hr
    · split
      · exact fitsF_range l k hk.1 hk.2 hr
      · decide

set_option maxRecDepth 20000 in
theorem Tryz.fits (l ks : List Int) (ad kd : Option Addr) (cl ck : Nat) (w : World) (N M : Nat) (hl : IntsAt w N ad l) (hk : IntsAt w M kd ks) (hlen : ks.length ≤ l.length) (hll : l.length ≤ 1000000000) :
    Calls Tryz.prog 160 #[.slice ad l.length cl, .slice kd ks.length ck] w fun e w' => e = .returned (.bool (fitsB l ks)) ∧ w' = w := by
  go_enter Tryz.func160, Tryz.ntmps160
  go_wp2_with fail
  go_loop [9] (fun i => ∃ k : Nat, i = .int .i64 k ∧ k ≤ ks.length ∧ Hid (fitsB (l.drop k) (ks.drop k) = fitsB l ks)) (fun i => ks.length - (intOf i).toNat)
  case atStart => exact ⟨0, rfl, Nat.zero_le _, Lib.hid rfl⟩
  case round =>
    obtain ⟨k, rfl, hkk, hf⟩ := hrel
    by_cases hlt : k < ks.length
    · obtain ⟨p, o, rfl, hp, c1, _, _⟩ := hk k hlt
      obtain ⟨q, r, rfl, hq, d1, _, _⟩ := hl k (by omega)
      have hkl : k < l.length := by omega
      have hst := fitsB_step (l := l) (ks := ks) hlt (by omega)
      rw [hf.out] at hst
      replace hst := Lib.hid hst
      generalize l[k] = a at *
      generalize ks[k] = b at *
      by_cases ha : a = 0
      · subst ha
        go_wp2_with fail
        go_round
        case rel => exact ⟨k + 1, by go_num, by omega, Lib.hid (by rw [hst.out]; simp)⟩
        case measure => simp [intOf]; omega
      · by_cases hb : a = b
        · subst hb
          go_wp2_with fail
          go_round
          case rel => exact ⟨k + 1, by go_num, by omega, Lib.hid (by rw [hst.out]; simp)⟩
          case measure => simp [intOf]; omega
        · have h0 : (a != 0) = true := by simpa using ha
          have h1 : (a != b) = true := by simpa using hb
          go_wp2_with fail
          go_ret
          rw [hst.out]
          simp [ha, hb]
    · have he : fitsB l ks = true := by
        rw [← hf.out, List.drop_of_length_le (show ks.length ≤ k by omega)]
        cases l.drop k <;> rfl
      replace he := Lib.hid he
      go_wp2_with fail
      go_ret
      rw [he.out]
      exact ⟨rfl, rfl⟩

theorem commonF_step {l : List Int} {k : Nat} (h : k < l.length) (out : Int) : commonF out (l.drop k) = if (out != 0) && ((l[k] != 0) && (l[k] != out)) then (0, false) else commonF (if max out l[k] = 0 then l[k] else max out l[k]) (l.drop (k + 1)) := by
  rw [List.drop_eq_getElem_cons h]
  rfl

theorem fitsF_step {l : List Int} {k : Nat} (h : k < l.length) (out : Int) : fitsF out (l.drop k) = if (l[k] == 0) || (l[k] == out) then fitsF out (l.drop (k + 1)) else if out == 0 then fitsF l[k] (l.drop (k + 1)) else (0, false) := by
  rw [List.drop_eq_getElem_cons h]
  rfl

set_option maxRecDepth 20000 in
theorem Tryz.common (l : List Int) (ad : Option Addr) (cl : Nat) (w : World) (N : Nat) (hl : IntsAt w N ad l) (hll : l.length ≤ 1000000000) :
    Calls Tryz.prog 124 #[.slice ad l.length cl] w fun e w' => e = .returned (.tuple #[.int .i64 (commonF 0 l).1, .bool (commonF 0 l).2]) ∧ w' = w := by
  go_enter Tryz.func124, Tryz.ntmps124
  go_wp2_with fail
  go_loop [4, 9] (fun o i => ∃ (k : Nat) (out : Int), i = .int .i64 k ∧ o = .int .i64 out ∧ k ≤ l.length ∧ Hid (commonF out (l.drop k) = commonF 0 l)) (fun _ i => l.length - (intOf i).toNat)
  case atStart => exact ⟨0, 0, rfl, rfl, Nat.zero_le _, Lib.hid rfl⟩
  case round =>
    obtain ⟨k, out, rfl, rfl, hkk, hf⟩ := hrel
    by_cases hlt : k < l.length
    · obtain ⟨p, o, rfl, hp, c1, _, _⟩ := hl k hlt
      have hst := commonF_step hlt out
      rw [hf.out] at hst
      replace hst := Lib.hid hst
      generalize l[k] = a at *
      by_cases ho : out = 0
      · subst ho
        by_cases hm : max 0 a = 0
        · go_wp2_with fail
          go_round
          case rel => exact ⟨k + 1, a, by go_num, by go_num, by omega, Lib.hid (by rw [hst.out]; simp [hm])⟩
          case measure => simp [intOf]; omega
        · go_wp2_with fail
          go_round
          case rel => exact ⟨k + 1, max 0 a, by go_num, by go_num, by omega, Lib.hid (by rw [hst.out]; simp [hm])⟩
          case measure => simp [intOf]; omega
      · by_cases hb : (a != 0) && (a != out)
        · simp only [Bool.and_eq_true, bne_iff_ne, ne_eq] at hb
          obtain ⟨hb1, hb2⟩ := hb
          have h0 : (out != 0) = true := by simpa using ho
          have h1 : (a != 0) = true := by simpa using hb1
          have h2 : (a != out) = true := by simpa using hb2
          go_wp2_with fail
          go_ret2
          rw [hst.out]
          simp [ho, hb1, hb2]
        · have hb2 : a = 0 ∨ a = out := by simp at hb; omega
          by_cases hm : max out a = 0
          · rcases hb2 with rfl | rfl
            · go_wp2_with fail
              go_round
              case rel => exact ⟨k + 1, 0, by go_num, by go_num, by omega, Lib.hid (by rw [hst.out]; simp [hm])⟩
              case measure => simp [intOf]; omega
            · omega
          · rcases hb2 with rfl | rfl
            · go_wp2_with fail
              go_round
              case rel => exact ⟨k + 1, max out 0, by go_num, by go_num, by omega, Lib.hid (by rw [hst.out]; simp [hm])⟩
              case measure => simp [intOf]; omega
            · go_wp2_with fail
              go_round
              case rel => exact ⟨k + 1, max a a, by go_num, by go_num, by omega, Lib.hid (by rw [hst.out]; simp [ho])⟩
              case measure => simp [intOf]; omega
    · have he := hf.out
      rw [List.drop_of_length_le (show l.length ≤ k by omega)] at he
      replace he := Lib.hid he
      go_wp2_with fail
      go_ret2
      rw [← he.out]
      exact ⟨rfl, rfl⟩

set_option maxRecDepth 20000 in
theorem Tryz.fitsR (l : List Int) (ad : Option Addr) (cl : Nat) (w : World) (N : Nat) (hl : IntsAt w N ad l) (hll : l.length ≤ 1000000000) :
    Calls Tryz.prog 168 #[.slice ad l.length cl] w fun e w' => e = .returned (.tuple #[.int .i64 (fitsF 0 l).1, .bool (fitsF 0 l).2]) ∧ w' = w := by
  go_enter Tryz.func168, Tryz.ntmps168
  go_wp2_with fail
  go_loop [4, 9] (fun o i => ∃ (k : Nat) (out : Int), i = .int .i64 k ∧ o = .int .i64 out ∧ k ≤ l.length ∧ Hid (fitsF out (l.drop k) = fitsF 0 l)) (fun _ i => l.length - (intOf i).toNat)
  case atStart => exact ⟨0, 0, rfl, rfl, Nat.zero_le _, Lib.hid rfl⟩
  case round =>
    obtain ⟨k, out, rfl, rfl, hkk, hf⟩ := hrel
    by_cases hlt : k < l.length
    · obtain ⟨p, o, rfl, hp, c1, _, _⟩ := hl k hlt
      have hst := fitsF_step hlt out
      rw [hf.out] at hst
      replace hst := Lib.hid hst
      generalize l[k] = a at *
      by_cases ha : a = 0
      · subst ha
        go_wp2_with fail
        go_round
        case rel => exact ⟨k + 1, out, by go_num, by go_num, by omega, Lib.hid (by rw [hst.out]; simp)⟩
        case measure => simp [intOf]; omega
      · by_cases hb : a = out
        · subst hb
          go_wp2_with fail
          go_round
          case rel => exact ⟨k + 1, a, by go_num, by go_num, by omega, Lib.hid (by rw [hst.out]; simp)⟩
          case measure => simp [intOf]; omega
        · by_cases ho : out = 0
          · subst ho
            go_wp2_with fail
            go_round
            case rel => exact ⟨k + 1, a, by go_num, by go_num, by omega, Lib.hid (by rw [hst.out]; simp [ha])⟩
            case measure => simp [intOf]; omega
          · have h0 : (out == 0) = false := by simpa using ho
            have h1 : (a == 0) = false := by simpa using ha
            have h2 : (a == out) = false := by simpa using hb
            go_wp2_with fail
            go_ret2
            rw [hst.out]
            simp [ha, hb, ho]
    · have he := hf.out
      rw [List.drop_of_length_le (show l.length ≤ k by omega)] at he
      replace he := Lib.hid he
      go_wp2_with fail
      go_ret2
      rw [← he.out]
      exact ⟨rfl, rfl⟩
end Go.Proofs
