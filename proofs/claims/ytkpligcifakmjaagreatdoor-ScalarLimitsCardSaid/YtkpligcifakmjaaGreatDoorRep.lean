/- ScalarLimits: slices.Repeat of a row of one part. No condition. -/
import Derived.Test.YtkpligcifakmjaaGreatDoorTree
import Derived.Test.YtkpligcifakmjaaGreatDoorShelfM
import Derived.Laws.CopyOwn
import Derived.Laws.MakeOwn
namespace Go.Proofs
open Go.RowKit Go.Ke

section
variable {P : Program}

theorem run_copyN (w : World) (dT sT ty elem : TypeId) (size m g o dLen dCap : Nat) (a : Addr) (sLen sCap : Nat) (cur : Array Value) (t : TypeId) (cs : List Value)
    (hu : P.underlying dT = some (.slice elem)) (hs : (P.info? elem).map (·.size) = some size) (hm : m = Nat.min sLen dLen)
    (hg : w.heap[g]? = some (.cells cur t (0, 0))) (hn : cs.length = m * size)
    (hsrc : ∀ j v, cs[j]? = some v → w.cell? (a.add j) = some v) (hfit : o + cs.length ≤ cur.size) (h1 : ∀ v ∈ cs, v.oneCell' = true) :
    (Builtin.copy_ #[dT, sT] ty #[.slice (some ⟨g, o, none⟩) dLen dCap, .slice (some a) sLen sCap]).run P w =
      .ok (goInt m) (w.setRow g (cur.toList.take o ++ cs ++ cur.toList.drop (o + cs.length)).toArray) := by
  subst hm
  have hl := run_loadCells_list (P := P) w a cs hsrc
  have hst := run_storeCells_at P g o t cs 0 cur w hg (by simpa using hfit) h1
  cases hq : P.info? elem with
  | none => simp [hq] at hs
  | some i =>
    have hi : i.size = size := by simpa [hq] using hs
    simp [Builtin.copy_, run_underlying hu, Builtin.lenOf, Builtin.firstCells, sizeOf, typeInfo, hq, hi, ← hn, hl, hst]

theorem wp_copyN {w : World} {o : Oper} {a : Act} {K : Act → World → Prop} {Q : Exit → Act → World → Prop} (d s : Operand) (dT sT : TypeId)
    (ho : o.op = .call { callee := .builtin .copy, args := #[d, s], argTypes := #[dT, sT] }) (elem : TypeId) (size m : Nat) (hu : P.underlying dT = some (.slice elem)) (hsz : (P.info? elem).map (·.size) = some size)
    (dLen dCap sLen sCap g off : Nat) (ad : Addr) (hd : a.eval d = .slice (some ⟨g, off, none⟩) dLen dCap) (hs : a.eval s = .slice (some ad) sLen sCap) (hm : m = Nat.min sLen dLen)
    (cur : List Value) (t : TypeId) (hg : w.heap[g]? = some (.cells cur.toArray t (0, 0))) (cs new : List Value) (hn : cs.length = m * size)
    (hsrc : ∀ j v, cs[j]? = some v → w.cell? (ad.add j) = some v)
    (hfit : off + cs.length ≤ cur.length) (h1 : ∀ v ∈ cs, v.oneCell' = true) (hnew : cur.take off ++ (cs ++ cur.drop (off + cs.length)) = new) (B : Nat) (w0 : World) (hb : RowKit.Below B w0 w) (hBg : B ≤ g)
    (h : ∀ w', w'.heap[g]? = some (.cells new.toArray t (0, 0)) → w'.heap.size = w.heap.size → RowKit.Below B w0 w' → K (a.put o.dst (goInt m)) w') :
    Oper.wp P o a w K Q := by
  have hrun := run_copyN (P := P) w dT sT o.type elem size m g off dLen dCap ad sLen sCap cur.toArray t cs hu hsz hm hg hn hsrc (by simpa using hfit) h1
  unfold Oper.wp
  simp [execOp, ho, resolve, invoke, builtin, hd, hs, hrun, Result.andThen]
  refine h _ ?_ (by simp [World.setRow]) (below_setRow hb hBg _)
  rw [← hnew]
  exact setRow_heap w g _ _ t _ hg

theorem wpList_copyN {w : World} {ops : Array Oper} {rest : List Oper} {o : Oper} {a : Act} {Q : Exit → Act → World → Prop} (hgd : o.guard = none) (d s : Operand) (dT sT : TypeId)
    (ho : o.op = .call { callee := .builtin .copy, args := #[d, s], argTypes := #[dT, sT] }) (elem : TypeId) (size m : Nat) (hu : P.underlying dT = some (.slice elem)) (hsz : (P.info? elem).map (·.size) = some size)
    (dLen dCap sLen sCap g off : Nat) (ad : Addr) (hd : a.eval d = .slice (some ⟨g, off, none⟩) dLen dCap) (hs : a.eval s = .slice (some ad) sLen sCap) (hm : m = Nat.min sLen dLen)
    (cur : List Value) (t : TypeId) (hg : w.heap[g]? = some (.cells cur.toArray t (0, 0))) (cs new : List Value) (hn : cs.length = m * size)
    (hsrc : ∀ j v, cs[j]? = some v → w.cell? (ad.add j) = some v)
    (hfit : off + cs.length ≤ cur.length) (h1 : ∀ v ∈ cs, v.oneCell' = true) (hnew : cur.take off ++ (cs ++ cur.drop (off + cs.length)) = new) (B : Nat) (w0 : World) (hb : RowKit.Below B w0 w) (hBg : B ≤ g)
    (h : ∀ w', w'.heap[g]? = some (.cells new.toArray t (0, 0)) → w'.heap.size = w.heap.size → RowKit.Below B w0 w' → wpList P ops Q rest (a.put o.dst (goInt m)) w') :
    wpList P ops Q (o :: rest) a w :=
  wpList_plain hgd fun _ hK => wp_copyN d s dT sT ho elem size m hu hsz dLen dCap sLen sCap g off ad hd hs hm cur t hg cs new hn hsrc hfit h1 hnew B w0 hb hBg fun w' h2 h3 h4 => hK _ _ (h w' h2 h3 h4)

theorem step_copyN {w : World} {ops : Array Oper} {o : Oper} {a : Act} {K : Act → World → Prop} {Q : Exit → Act → World → Prop} {E : Prop} (hgd : o.guard = none) (d s : Operand) (dT sT : TypeId)
    (ho : o.op = .call { callee := .builtin .copy, args := #[d, s], argTypes := #[dT, sT] }) (elem : TypeId) (size m : Nat) (hu : P.underlying dT = some (.slice elem)) (hsz : (P.info? elem).map (·.size) = some size)
    (dLen dCap sLen sCap g off : Nat) (ad : Addr) (hd : a.eval d = .slice (some ⟨g, off, none⟩) dLen dCap) (hs : a.eval s = .slice (some ad) sLen sCap) (hm : m = Nat.min sLen dLen)
    (cur : List Value) (t : TypeId) (hg : w.heap[g]? = some (.cells cur.toArray t (0, 0))) (cs new : List Value) (hn : cs.length = m * size)
    (hsrc : ∀ j v, cs[j]? = some v → w.cell? (ad.add j) = some v)
    (hfit : off + cs.length ≤ cur.length) (h1 : ∀ v ∈ cs, v.oneCell' = true) (hnew : cur.take off ++ (cs ++ cur.drop (off + cs.length)) = new) (B : Nat) (w0 : World) (hb : RowKit.Below B w0 w) (hBg : B ≤ g)
    (h : ∀ w', w'.heap[g]? = some (.cells new.toArray t (0, 0)) → w'.heap.size = w.heap.size → RowKit.Below B w0 w' → K (a.put o.dst (goInt m)) w') :
    if Region.wanted o (yielded ops a.tmps) = true then Oper.wp P o a w K Q else E := by
  have hw : Region.wanted o (yielded ops a.tmps) = true := by simp [Region.wanted, hgd]
  rw [if_pos hw]
  exact wp_copyN d s dT sT ho elem size m hu hsz dLen dCap sLen sCap g off ad hd hs hm cur t hg cs new hn hsrc hfit h1 hnew B w0 hb hBg h
end

/-- So many copies of a list of cells. -/
def rep (X : List Value) : Nat → List Value
  | 0 => []
  | c + 1 => X ++ rep X c

theorem rep_length (X : List Value) (hX : X.length = 13) : ∀ c, (rep X c).length = c * 13
  | 0 => by simp [rep]
  | c + 1 => by simp only [rep, List.length_append, rep_length X hX c, hX]; omega

theorem rep_add (X : List Value) : ∀ a b, rep X (a + b) = rep X a ++ rep X b
  | 0, b => by simp [rep]
  | a + 1, b => by rw [show a + 1 + b = (a + b) + 1 by omega]; simp only [rep, rep_add X a b, List.append_assoc]

theorem rep_one (X : List Value) (h : ∀ v ∈ X, v.oneCell' = true) : ∀ c, ∀ v ∈ rep X c, v.oneCell' = true
  | 0, v, hv => by simp [rep] at hv
  | c + 1, v, hv => by
    simp only [rep, List.mem_append] at hv
    rcases hv with hv | hv
    · exact h v hv
    · exact rep_one X h c v hv

/-- The row while it is being filled: k copies, behind them what was there. -/
def half (X Z : List Value) (k : Nat) : List Value := rep X k ++ Z.drop (k * 13)

theorem half_length (X Z : List Value) (hX : X.length = 13) {c k : Nat} (hZ : Z.length = c * 13) (hk : k ≤ c) : (half X Z k).length = c * 13 := by
  unfold half
  rw [List.length_append, rep_length X hX, List.length_drop, hZ]
  have := Nat.mul_le_mul_right 13 hk
  omega

theorem half_copy (X Z : List Value) (hX : X.length = 13) (k m : Nat) :
    (half X Z k).take (k * 13) ++ (rep X m ++ (half X Z k).drop (k * 13 + (rep X m).length)) = half X Z (k + m) := by
  have h1 := rep_length X hX k
  have h2 := rep_length X hX m
  unfold half
  rw [List.take_append_of_le_length (by omega), ← h1, List.take_length, List.drop_append, h1, h2, rep_add]
  have e1 : List.drop (k * 13 + m * 13) (rep X k) = [] := List.drop_eq_nil_of_le (by omega)
  rw [e1, List.drop_drop]
  simp only [List.nil_append, List.append_assoc]
  congr 3
  rw [Nat.add_mul]; omega

theorem half_get (X Z : List Value) {k m j : Nat} (hm : m ≤ k) {v : Value} (h : (rep X m)[j]? = some v) : (half X Z k)[j]? = some v := by
  unfold half
  obtain ⟨d, rfl⟩ : ∃ d, k = m + d := ⟨k - m, by omega⟩
  rw [rep_add, List.append_assoc]
  rw [List.getElem?_append_left (List.getElem?_eq_some_iff.1 h).1]
  exact h

theorem Tryz.info57b : (Tryz.prog.info? 57).map (fun i => (i.zero, i.size, i.bytes)) = some (some (.agg #[.int .i64 0, .int .i64 0, .int .i64 0, .int .i64 0, .int .i64 0, .string ⟨#[]⟩, .string ⟨#[]⟩, .string ⟨#[]⟩, .bool false, .slice none 0 0, .slice none 0 0, .slice none 0 0, .slice none 0 0]), 13, 192) := by kernel_rfl

theorem Tryz.size57 : (Tryz.prog.info? 57).map (·.size) = some 13 := by kernel_rfl

set_option maxRecDepth 20000 in
set_option maxHeartbeats 1000000 in
theorem Tryz.repeat1 (X : List Value) (hX : X.length = 13) (h1 : ∀ v ∈ X, v.oneCell' = true) (p c : Nat) (w : World) (hp : w.heap[p]? = some (.cells X.toArray 57)) (hc1 : 1 ≤ c) (hc2 : c ≤ 1000) :
    Calls Tryz.prog 41 #[.slice (some ⟨p, 0, none⟩) 1 1, .int .i64 c] w fun e w' => e = .returned (.slice (some ⟨w.heap.size, 0, none⟩) c c) ∧ w'.heap[w.heap.size]? = some (.cells (rep X c).toArray 57) ∧ w'.heap.size = w.heap.size + 1 ∧ Below w.heap.size w w' := by
  have hm := Tryz.bits_Mul 1 c (by omega) (by omega) w
  rw [Nat.one_mul, Nat.div_eq_of_lt (by omega : c < 18446744073709551616), Nat.mod_eq_of_lt (by omega : c < 18446744073709551616)] at hm
  obtain ⟨i, hi, hz, hsi, hby⟩ := info_parts Tryz.info57b
  have hmk := run_make (P := Tryz.prog) w 53 57 i _ Tryz.underlying53 hi hz .i64 .i64 c c (by omega) (Int.le_refl _) (by rw [hby]; omega) (by omega)
  simp only [Int.toNat_natCast] at hmk
  rw [hsi] at hmk
  have hps : p < w.heap.size := (Array.getElem?_eq_some_iff.1 hp).1
  obtain ⟨Z, hZ⟩ : ∃ Z : List Value, madeCells (Value.cells (.agg #[.int .i64 0, .int .i64 0, .int .i64 0, .int .i64 0, .int .i64 0, .string ⟨#[]⟩, .string ⟨#[]⟩, .string ⟨#[]⟩, .bool false, .slice none 0 0, .slice none 0 0, .slice none 0 0, .slice none 0 0])) (c * 13) = Z.toArray := ⟨_, (Array.toArray_toList (xs := _)).symm⟩
  have hZl : Z.length = c * 13 := by
    have := size_madeCells (Value.cells (.agg #[.int .i64 0, .int .i64 0, .int .i64 0, .int .i64 0, .int .i64 0, .string ⟨#[]⟩, .string ⟨#[]⟩, .string ⟨#[]⟩, .bool false, .slice none 0 0, .slice none 0 0, .slice none 0 0, .slice none 0 0])) (c * 13)
    rw [hZ] at this
    simpa using this
  rw [hZ] at hmk
  have hw1 : Below w.heap.size w (w.alloc (.cells Z.toArray 57)) := (Below.refl _ _).alloc (Nat.le_refl _) _
  have hq1 : (w.alloc (.cells Z.toArray 57)).heap[w.heap.size]? = some (.cells (half X Z 0).toArray 57) := by
    rw [heap_alloc_new]; simp [half, rep]
  have hp1 : (w.alloc (.cells Z.toArray 57)).heap[p]? = some (.cells X.toArray 57) := (heap_alloc_old _ _ hps).trans hp
  have hsz1 := ex_alloc_size w (.cells Z.toArray 57)
  clear hZ
  go_enter Tryz.func41, Tryz.ntmps41
  go_upto_region 7 with (first
    | (go_at_call 87; refine hm.mono ?_; rintro r w2 ⟨rfl, hww⟩; rw [hww]))
  generalize w.alloc (.cells Z.toArray 57) = W1 at hw1 hq1 hp1 hsz1 ⊢
  obtain ⟨q, hq⟩ : ∃ q, w.heap.size = q := ⟨_, rfl⟩
  rw [hq] at hq1 hw1 hsz1 ⊢
  have hpq : p < q := by omega
  have hqe := Lib.hid hq
  clear hq hps hmk hm
  have hcp := half_copy X Z hX 0 1
  have hr1 : rep X 1 = X := by simp [rep]
  rw [Nat.zero_mul, Nat.zero_add, Nat.zero_add, hr1] at hcp
  go_wp2_with (refine wpList_copyN rfl (.tmp 31) (.tmp 32) 53 53 rfl 57 13 1 Tryz.underlying53 Tryz.size57 c c 1 1 q 0 ⟨p, 0, none⟩ rfl rfl (by show 1 = min 1 c; omega) (half X Z 0) 57 hq1 X (half X Z 1) (by rw [hX]) ?_ (by rw [half_length X Z hX hZl (Nat.zero_le _), hX]; omega) h1 (by rw [Nat.zero_add]; exact hcp) q w hw1 (Nat.le_refl _) ?_)
  · intro j v hj
    have : (⟨p, 0, none⟩ : Addr).add j = ⟨p, 0 + j, none⟩ := by unfold Addr.add; split <;> simp_all
    rw [this, Nat.zero_add]
    simp only [World.cell?, hp1, List.getElem?_toArray]
    exact hj
  · intro W2 hq2 hsz2 hw2
    replace hsz2 : W2.heap.size = q + 1 := by omega
    clear hcp hr1 hq1 hw1 hp1 hsz1
    go_wp2_with fail
    go_loopw [8] (fun i wr => ∃ k : Nat, i = .int .i64 k ∧ 1 ≤ k ∧ k ≤ c ∧ wr.heap[q]? = some (.cells (half X Z k).toArray 57) ∧ wr.heap.size = q + 1 ∧ Below q w wr) (fun i _ => c - (intOf i).toNat)
    case atStart => exact ⟨1, rfl, Nat.le_refl _, hc1, hq2, hsz2, hw2⟩
    case round =>
      obtain ⟨k, rfl, hk1, hk, hqr, hsr, hwr⟩ := hrel
      by_cases hlt : k < c
      · obtain ⟨m, hm⟩ : ∃ m, m = Nat.min k (c - k) := ⟨_, rfl⟩
        have hm1 : 1 ≤ m ∧ m ≤ k ∧ k + m ≤ c := by rw [hm]; simp only [Nat.min_def]; split <;> omega
        replace hm := Lib.hid hm
        have hcp := Lib.hid (half_copy X Z hX k m)
        have hhl := Lib.hid (half_length X Z hX hZl hk)
        have hrl := Lib.hid (rep_length X hX m)
        have hsrc : Hid (∀ j v, (rep X m)[j]? = some v → wr.cell? ((⟨q, 0, none⟩ : Addr).add j) = some v) := Lib.hid (by
          intro j v hj
          have : (⟨q, 0, none⟩ : Addr).add j = ⟨q, 0 + j, none⟩ := by unfold Addr.add; split <;> simp_all
          rw [this, Nat.zero_add]
          simp only [World.cell?, hqr, List.getElem?_toArray]
          exact half_get X Z hm1.2.1 hj)
        replace hqr := Lib.hid hqr
        have hfit : Hid (k * 13 + (rep X m).length ≤ (half X Z k).length) := Lib.hid (by rw [hhl.out, hrl.out]; omega)
        have hone := Lib.hid (rep_one X h1 m)
        obtain ⟨hm1, hm2, hm3⟩ := hm1
        go_upto_region 9 with fail
        go_region_law (refine step_copyN rfl (.tmp 41) (.tmp 44) 53 53 rfl 57 13 m Tryz.underlying53 Tryz.size57 (c - k) (c - k) k c q (k * 13) ⟨q, 0, none⟩ (by simp [Act.eval, Act.put]; omega) (by simp [Act.eval, Act.put]) hm.out (half X Z k) 57 hqr.out (rep X m) (half X Z (k + m)) hrl.out hsrc.out hfit.out hone.out hcp.out q w hwr.drew (Nat.le_refl _) ?_; intro w4 hq4 hs4 hw4)
        replace hs4 : w4.heap.size = q + 1 := hs4.trans hsr
        clear hcp hhl hrl hsrc hqr hfit hone
        have hwrap : IntKind.i64.wrap ((k : Int) + (m : Int)) = ((k + m : Nat) : Int) := by rw [IntKind.wrap_i64]; omega
        simp only [Act.put, List.getElem_toArray, List.getElem_cons_succ, List.getElem_cons_zero, List.setIfInBounds_toArray, List.set_cons_zero, List.set_cons_succ]
        rw [hwrap]
        clear hm hwrap
        go_roundw
        case rel => exact ⟨_, _, _, _, _, _, _, _, _, _, _, _, _, _, ⟨k + m, rfl, by omega, hm3, hq4, hs4, hw4⟩, rfl⟩
        case measure => simp [intOf]; omega
      · have hke : k = c := by omega
        have hqq := hqe.out
        go_wp2_with fail
        go_ret
        subst hke
        rw [hqq]
        refine ⟨rfl, ?_, hsr, hwr⟩
        rw [hqr]
        unfold half
        rw [List.drop_eq_nil_of_le (by omega), List.append_nil]
end Go.Proofs
