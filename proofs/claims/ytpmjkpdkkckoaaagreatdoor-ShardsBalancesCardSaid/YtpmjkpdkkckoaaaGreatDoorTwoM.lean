/- Repeat of a number; two rows of numbers that grow while a stream is drawn from. No condition. -/
import Derived.Test.YtpmjkpdkkckoaaaGreatDoorNumM
import Derived.Laws.CopyOwn
import Derived.Laws.MakeOwn
namespace Go.Proofs
open Go.RowKit

section
variable {P : Program}

theorem run_copyN (w : World) (dT sT ty elem : TypeId) (size m g o dLen dCap : Nat) (a : Addr) (sLen sCap : Nat) (cur : Array Value) (t : TypeId) (cs : List Value)
    (hu : P.underlying dT = some (.slice elem)) (hs : (P.info? elem).map (·.size) = some size) (hm : m = Nat.min sLen dLen)
    (hg : w.heap[g]? = some (.cells cur t (0, 0))) (hn : cs.length = m * size)
    (hsrc : ∀ j v, cs[j]? = some v → w.cell? (a.add j) = some v) (hfit : o + cs.length ≤ cur.size) (h1 : ∀ v ∈ cs, v.oneCell' = true) :
    (Builtin.copy_ #[dT, sT] ty #[.slice (some ⟨g, o, none⟩) dLen dCap, .slice (some a) sLen sCap]).run P w =
      .ok (goInt m) (w.setRow g (cur.toList.take o ++ cs ++ cur.toList.drop (o + cs.length)).toArray) := by
  subst hm
  have hl := run_loadCells_list (P := P) w a cs hsrc
  have hst := run_storeCells_at P g o t cs 0 cur w hg (by simpa using hfit) h1
  cases hq : P.info? elem with
  | none => simp [hq] at hs
  | some i =>
    have hi : i.size = size := by simpa [hq] using hs
    simp [Builtin.copy_, run_underlying hu, Builtin.lenOf, Builtin.firstCells, sizeOf, typeInfo, hq, hi, ← hn, hl, hst]

theorem wp_copyN {w : World} {o : Oper} {a : Act} {K : Act → World → Prop} {Q : Exit → Act → World → Prop} (d s : Operand) (dT sT : TypeId)
    (ho : o.op = .call { callee := .builtin .copy, args := #[d, s], argTypes := #[dT, sT] }) (elem : TypeId) (size m : Nat) (hu : P.underlying dT = some (.slice elem)) (hsz : (P.info? elem).map (·.size) = some size)
    (dLen dCap sLen sCap g off : Nat) (ad : Addr) (hd : a.eval d = .slice (some ⟨g, off, none⟩) dLen dCap) (hs : a.eval s = .slice (some ad) sLen sCap) (hm : m = Nat.min sLen dLen)
    (cur : List Value) (t : TypeId) (hg : w.heap[g]? = some (.cells cur.toArray t (0, 0))) (cs new : List Value) (hn : cs.length = m * size)
    (hsrc : ∀ j v, cs[j]? = some v → w.cell? (ad.add j) = some v)
    (hfit : off + cs.length ≤ cur.length) (h1 : ∀ v ∈ cs, v.oneCell' = true) (hnew : cur.take off ++ (cs ++ cur.drop (off + cs.length)) = new) (B : Nat) (w0 : World) (hb : RowKit.Below B w0 w) (hBg : B ≤ g)
    (h : ∀ w', w'.heap[g]? = some (.cells new.toArray t (0, 0)) → w'.heap.size = w.heap.size → RowKit.Below B w0 w' → K (a.put o.dst (goInt m)) w') :
    Oper.wp P o a w K Q := by
  have hrun := run_copyN (P := P) w dT sT o.type elem size m g off dLen dCap ad sLen sCap cur.toArray t cs hu hsz hm hg hn hsrc (by simpa using hfit) h1
  unfold Oper.wp
  simp [execOp, ho, resolve, invoke, builtin, hd, hs, hrun, Result.andThen]
  refine h _ ?_ (by simp [World.setRow]) (below_setRow hb hBg _)
  rw [← hnew]
  exact setRow_heap w g _ _ t _ hg

theorem wpList_copyN {w : World} {ops : Array Oper} {rest : List Oper} {o : Oper} {a : Act} {Q : Exit → Act → World → Prop} (hgd : o.guard = none) (d s : Operand) (dT sT : TypeId)
    (ho : o.op = .call { callee := .builtin .copy, args := #[d, s], argTypes := #[dT, sT] }) (elem : TypeId) (size m : Nat) (hu : P.underlying dT = some (.slice elem)) (hsz : (P.info? elem).map (·.size) = some size)
    (dLen dCap sLen sCap g off : Nat) (ad : Addr) (hd : a.eval d = .slice (some ⟨g, off, none⟩) dLen dCap) (hs : a.eval s = .slice (some ad) sLen sCap) (hm : m = Nat.min sLen dLen)
    (cur : List Value) (t : TypeId) (hg : w.heap[g]? = some (.cells cur.toArray t (0, 0))) (cs new : List Value) (hn : cs.length = m * size)
    (hsrc : ∀ j v, cs[j]? = some v → w.cell? (ad.add j) = some v)
    (hfit : off + cs.length ≤ cur.length) (h1 : ∀ v ∈ cs, v.oneCell' = true) (hnew : cur.take off ++ (cs ++ cur.drop (off + cs.length)) = new) (B : Nat) (w0 : World) (hb : RowKit.Below B w0 w) (hBg : B ≤ g)
    (h : ∀ w', w'.heap[g]? = some (.cells new.toArray t (0, 0)) → w'.heap.size = w.heap.size → RowKit.Below B w0 w' → wpList P ops Q rest (a.put o.dst (goInt m)) w') :
    wpList P ops Q (o :: rest) a w :=
  wpList_plain hgd fun _ hK => wp_copyN d s dT sT ho elem size m hu hsz dLen dCap sLen sCap g off ad hd hs hm cur t hg cs new hn hsrc hfit h1 hnew B w0 hb hBg fun w' h2 h3 h4 => hK _ _ (h w' h2 h3 h4)

theorem step_copyN {w : World} {ops : Array Oper} {o : Oper} {a : Act} {K : Act → World → Prop} {Q : Exit → Act → World → Prop} {E : Prop} (hgd : o.guard = none) (d s : Operand) (dT sT : TypeId)
    (ho : o.op = .call { callee := .builtin .copy, args := #[d, s], argTypes := #[dT, sT] }) (elem : TypeId) (size m : Nat) (hu : P.underlying dT = some (.slice elem)) (hsz : (P.info? elem).map (·.size) = some size)
    (dLen dCap sLen sCap g off : Nat) (ad : Addr) (hd : a.eval d = .slice (some ⟨g, off, none⟩) dLen dCap) (hs : a.eval s = .slice (some ad) sLen sCap) (hm : m = Nat.min sLen dLen)
    (cur : List Value) (t : TypeId) (hg : w.heap[g]? = some (.cells cur.toArray t (0, 0))) (cs new : List Value) (hn : cs.length = m * size)
    (hsrc : ∀ j v, cs[j]? = some v → w.cell? (ad.add j) = some v)
    (hfit : off + cs.length ≤ cur.length) (h1 : ∀ v ∈ cs, v.oneCell' = true) (hnew : cur.take off ++ (cs ++ cur.drop (off + cs.length)) = new) (B : Nat) (w0 : World) (hb : RowKit.Below B w0 w) (hBg : B ≤ g)
    (h : ∀ w', w'.heap[g]? = some (.cells new.toArray t (0, 0)) → w'.heap.size = w.heap.size → RowKit.Below B w0 w' → K (a.put o.dst (goInt m)) w') :
    if Region.wanted o (yielded ops a.tmps) = true then Oper.wp P o a w K Q else E := by
  have hw : Region.wanted o (yielded ops a.tmps) = true := by simp [Region.wanted, hgd]
  rw [if_pos hw]
  exact wp_copyN d s dT sT ho elem size m hu hsz dLen dCap sLen sCap g off ad hd hs hm cur t hg cs new hn hsrc hfit h1 hnew B w0 hb hBg h
end

/-- So many copies of a list of cells. -/
def rep (X : List Value) : Nat → List Value
  | 0 => []
  | c + 1 => X ++ rep X c

theorem rep_length (X : List Value) (hX : X.length = 1) : ∀ c, (rep X c).length = c * 1
  | 0 => by simp [rep]
  | c + 1 => by simp only [rep, List.length_append, rep_length X hX c, hX]; omega

theorem rep_add (X : List Value) : ∀ a b, rep X (a + b) = rep X a ++ rep X b
  | 0, b => by simp [rep]
  | a + 1, b => by rw [show a + 1 + b = (a + b) + 1 by omega]; simp only [rep, rep_add X a b, List.append_assoc]

theorem rep_one (X : List Value) (h : ∀ v ∈ X, v.oneCell' = true) : ∀ c, ∀ v ∈ rep X c, v.oneCell' = true
  | 0, v, hv => by simp [rep] at hv
  | c + 1, v, hv => by
    simp only [rep, List.mem_append] at hv
    rcases hv with hv | hv
    · exact h v hv
    · exact rep_one X h c v hv

/-- The row while it is being filled: k copies, behind them what was there. -/
def half (X Z : List Value) (k : Nat) : List Value := rep X k ++ Z.drop (k * 1)

theorem half_length (X Z : List Value) (hX : X.length = 1) {c k : Nat} (hZ : Z.length = c * 1) (hk : k ≤ c) : (half X Z k).length = c * 1 := by
  unfold half
  rw [List.length_append, rep_length X hX, List.length_drop, hZ]
  have := Nat.mul_le_mul_right 13 hk
  omega

theorem half_copy (X Z : List Value) (hX : X.length = 1) (k m : Nat) :
    (half X Z k).take (k * 1) ++ (rep X m ++ (half X Z k).drop (k * 1 + (rep X m).length)) = half X Z (k + m) := by
  have h1 := rep_length X hX k
  have h2 := rep_length X hX m
  unfold half
  rw [List.take_append_of_le_length (by omega), ← h1, List.take_length, List.drop_append, h1, h2, rep_add]
  have e1 : List.drop (k * 1 + m * 1) (rep X k) = [] := List.drop_eq_nil_of_le (by omega)
  rw [e1, List.drop_drop]
  simp only [List.nil_append, List.append_assoc]
  congr 3
  rw [Nat.add_mul]; omega

theorem half_get (X Z : List Value) {k m j : Nat} (hm : m ≤ k) {v : Value} (h : (rep X m)[j]? = some v) : (half X Z k)[j]? = some v := by
  unfold half
  obtain ⟨d, rfl⟩ : ∃ d, k = m + d := ⟨k - m, by omega⟩
  rw [rep_add, List.append_assoc]
  rw [List.getElem?_append_left (List.getElem?_eq_some_iff.1 h).1]
  exact h

theorem Tryz.size3 : (Tryz.prog.info? 3).map (·.size) = some 1 := by kernel_rfl

set_option maxRecDepth 20000 in
set_option maxHeartbeats 1000000 in
theorem Tryz.repeat1 (X : List Value) (hX : X.length = 1) (h1 : ∀ v ∈ X, v.oneCell' = true) (p c : Nat) (w : World) (hp : w.heap[p]? = some (.cells X.toArray 3)) (hc1 : 1 ≤ c) (hc2 : c ≤ 1000) :
    Calls Tryz.prog 8 #[.slice (some ⟨p, 0, none⟩) 1 1, .int .i64 c] w fun e w' => e = .returned (.slice (some ⟨w.heap.size, 0, none⟩) c c) ∧ w'.heap[w.heap.size]? = some (.cells (rep X c).toArray 3) ∧ w'.heap.size = w.heap.size + 1 ∧ Below w.heap.size w w' := by
  have hm := Tryz.bits_Mul 1 c (by omega) (by omega) w
  rw [Nat.one_mul, Nat.div_eq_of_lt (by omega : c < 18446744073709551616), Nat.mod_eq_of_lt (by omega : c < 18446744073709551616)] at hm
  obtain ⟨i, hi, hz, hsi, hby⟩ := info_parts Tryz.info3'
  have hmk := run_make (P := Tryz.prog) w 22 3 i _ Tryz.underlying22 hi hz .i64 .i64 c c (by omega) (Int.le_refl _) (by rw [hby]; omega) (by omega)
  simp only [Int.toNat_natCast] at hmk
  rw [hsi] at hmk
  have hps : p < w.heap.size := (Array.getElem?_eq_some_iff.1 hp).1
  obtain ⟨Z, hZ⟩ : ∃ Z : List Value, madeCells (Value.cells (.int .i64 0)) (c * 1) = Z.toArray := ⟨_, (Array.toArray_toList (xs := _)).symm⟩
  have hZl : Z.length = c * 1 := by
    have := size_madeCells (Value.cells (.int .i64 0)) (c * 1)
    rw [hZ] at this
    simpa using this
  rw [hZ] at hmk
  have hw1 : Below w.heap.size w (w.alloc (.cells Z.toArray 3)) := (Below.refl _ _).alloc (Nat.le_refl _) _
  have hq1 : (w.alloc (.cells Z.toArray 3)).heap[w.heap.size]? = some (.cells (half X Z 0).toArray 3) := by
    rw [heap_alloc_new']; simp [half, rep]
  have hp1 : (w.alloc (.cells Z.toArray 3)).heap[p]? = some (.cells X.toArray 3) := (heap_alloc_old _ _ hps).trans hp
  have hsz1 := ex_alloc_size w (.cells Z.toArray 3)
  clear hZ
  go_enter Tryz.func8, Tryz.ntmps8
  go_upto_region 7 with (first
    | (go_at_call 14; refine hm.mono ?_; rintro r w2 ⟨rfl, hww⟩; rw [hww]))
  generalize w.alloc (.cells Z.toArray 3) = W1 at hw1 hq1 hp1 hsz1 ⊢
  obtain ⟨q, hq⟩ : ∃ q, w.heap.size = q := ⟨_, rfl⟩
  rw [hq] at hq1 hw1 hsz1 ⊢
  have hpq : p < q := by omega
  have hqe := Lib.hid hq
  clear hq hps hmk hm
  have hcp := half_copy X Z hX 0 1
  have hr1 : rep X 1 = X := by simp [rep]
  rw [Nat.zero_mul, Nat.zero_add, Nat.zero_add, hr1] at hcp
  go_wp2_with (refine wpList_copyN rfl (.tmp 31) (.tmp 32) 22 22 rfl 3 1 1 Tryz.underlying22 Tryz.size3 c c 1 1 q 0 ⟨p, 0, none⟩ rfl rfl (by show 1 = min 1 c; omega) (half X Z 0) 3 hq1 X (half X Z 1) (by rw [hX]) ?_ (by rw [half_length X Z hX hZl (Nat.zero_le _), hX]; omega) h1 (by rw [Nat.zero_add]; exact hcp) q w hw1 (Nat.le_refl _) ?_)
  · intro j v hj
    have : (⟨p, 0, none⟩ : Addr).add j = ⟨p, 0 + j, none⟩ := by unfold Addr.add; split <;> simp_all
    rw [this, Nat.zero_add]
    simp only [World.cell?, hp1, List.getElem?_toArray]
    exact hj
  · intro W2 hq2 hsz2 hw2
    replace hsz2 : W2.heap.size = q + 1 := by omega
    clear hcp hr1 hq1 hw1 hp1 hsz1
    go_wp2_with fail
    go_loopw [8] (fun i wr => ∃ k : Nat, i = .int .i64 k ∧ 1 ≤ k ∧ k ≤ c ∧ wr.heap[q]? = some (.cells (half X Z k).toArray 3) ∧ wr.heap.size = q + 1 ∧ Below q w wr) (fun i _ => c - (intOf i).toNat)
    case atStart => exact ⟨1, rfl, Nat.le_refl _, hc1, hq2, hsz2, hw2⟩
    case round =>
      obtain ⟨k, rfl, hk1, hk, hqr, hsr, hwr⟩ := hrel
      by_cases hlt : k < c
      · obtain ⟨m, hm⟩ : ∃ m, m = Nat.min k (c - k) := ⟨_, rfl⟩
        have hm1 : 1 ≤ m ∧ m ≤ k ∧ k + m ≤ c := by rw [hm]; simp only [Nat.min_def]; split <;> omega
        replace hm := Lib.hid hm
        have hcp := Lib.hid (half_copy X Z hX k m)
        have hhl := Lib.hid (half_length X Z hX hZl hk)
        have hrl := Lib.hid (rep_length X hX m)
        have hsrc : Hid (∀ j v, (rep X m)[j]? = some v → wr.cell? ((⟨q, 0, none⟩ : Addr).add j) = some v) := Lib.hid (by
          intro j v hj
          have : (⟨q, 0, none⟩ : Addr).add j = ⟨q, 0 + j, none⟩ := by unfold Addr.add; split <;> simp_all
          rw [this, Nat.zero_add]
          simp only [World.cell?, hqr, List.getElem?_toArray]
          exact half_get X Z hm1.2.1 hj)
        replace hqr := Lib.hid hqr
        have hfit : Hid (k * 1 + (rep X m).length ≤ (half X Z k).length) := Lib.hid (by rw [hhl.out, hrl.out]; omega)
        have hone := Lib.hid (rep_one X h1 m)
        obtain ⟨hm1, hm2, hm3⟩ := hm1
        go_upto_region 9 with fail
        go_region_law (refine step_copyN rfl (.tmp 41) (.tmp 44) 22 22 rfl 3 1 m Tryz.underlying22 Tryz.size3 (c - k) (c - k) k c q (k * 1) ⟨q, 0, none⟩ (by simp [Act.eval, Act.put]; omega) (by simp [Act.eval, Act.put]) hm.out (half X Z k) 3 hqr.out (rep X m) (half X Z (k + m)) hrl.out hsrc.out hfit.out hone.out hcp.out q w hwr.drew (Nat.le_refl _) ?_; intro w4 hq4 hs4 hw4)
        replace hs4 : w4.heap.size = q + 1 := hs4.trans hsr
        clear hcp hhl hrl hsrc hqr hfit hone
        have hwrap : IntKind.i64.wrap ((k : Int) + (m : Int)) = ((k + m : Nat) : Int) := by rw [IntKind.wrap_i64]; omega
        simp only [Act.put, List.getElem_toArray, List.getElem_cons_succ, List.getElem_cons_zero, List.setIfInBounds_toArray, List.set_cons_zero, List.set_cons_succ]
        rw [hwrap]
        clear hm hwrap
        go_roundw
        case rel => exact ⟨_, _, _, _, _, _, _, _, _, _, _, _, _, _, ⟨k + m, rfl, by omega, hm3, hq4, hs4, hw4⟩, rfl⟩
        case measure => simp [intOf]; omega
      · have hke : k = c := by omega
        have hqq := hqe.out
        go_wp2_with fail
        go_ret
        subst hke
        rw [hqq]
        refine ⟨rfl, ?_, hsr, hwr⟩
        rw [hqr]
        unfold half
        rw [List.drop_eq_nil_of_le (by omega), List.append_nil]
end Go.Proofs

namespace Go.Proofs
open Go.RowKit Go.Level

section
variable {P : Program}

/-- Where a row lies behind an append: where it lay, or in the newest block. -/
theorem run_append_where (w : World) (base : Nat) (t ty e : TypeId) (i : TypeInfo) (z : Value) (size bytes : Nat) (ht : P.underlying t = some (.slice e)) (hi : P.info? e = some i) (hz : i.zero = some z)
    (hsize : i.size = size) (hby : i.bytes = bytes) (v : Value) (n : Nat) (xs : List Value) (hown : w.ownsRow base e size v n xs)
    (a : Addr) (m c : Nat) (news : List Value) (hl : news.length = m * size) (hnews : ∀ j u, news[j]? = some u → w.cell? (a.add j) = some u) (h1 : ∀ u ∈ news, u.oneCell' = true) (hm : 0 < m)
    (h63 : n + m ≤ maxLen) (hbytes : (n + m) * bytes ≤ 140737488355328) (v' : Value) (w' : World)
    (hr : (Builtin.append_ #[t, t] ty #[v, .slice (some a) m c]).run P w = .ok v' w') : v'.ownBlock = v.ownBlock ∨ v'.ownBlock = some w.heap.size := by
  subst hsize
  subst hby
  have hsmall : n + m ≤ 9223372036854775807 := by simp only [maxLen] at h63; omega
  rcases hown.2 with ⟨rfl, rfl⟩ | ⟨g, cap, cur, rfl, hbg, hg, hnc, hcm, hcs, htake⟩
  · have h := run_append_nil (P := P) w t ty e i z ht hi hz a m c news hl hnews (by omega) (by omega) (by have hb := hbytes; simp only [Nat.zero_add] at hb; omega)
    rw [h] at hr
    cases hr
    right; rfl
  · by_cases hroom : n + m ≤ cap
    · have hfit : n * i.size + news.length ≤ cur.size := by rw [hl, hcs, ← Nat.add_mul]; exact Nat.mul_le_mul_right _ hroom
      have h := run_append_room (P := P) w t ty e i ht hi g n cap cur hg a m c news hl hnews h1 hroom hfit
      rw [h] at hr
      cases hr
      left; rfl
    · have holds : ∀ j u, xs[j]? = some u → w.cell? ((⟨g, 0, none⟩ : Addr).add j) = some u := hown.cells (g := g) rfl
      have h := run_append_grow (P := P) w t ty e i z ht hi hz ⟨g, 0, none⟩ n cap xs hown.1 holds a m c news hl hnews (by omega) (by omega) (growslice_fits (by omega) hbytes)
      rw [h] at hr
      cases hr
      right; rfl

theorem wp_append_own2 {o : Oper} {a : Act} {K : Act → World → Prop} {Q : Exit → Act → World → Prop} (w : World) (s x : Operand) (t : TypeId)
    (ho : o.op = .call { callee := .builtin .append, args := #[s, x], argTypes := #[t, t] })
    (base : Nat) (e : TypeId) (i : TypeInfo) (z : Value) (size bytes : Nat) (ht : P.underlying t = some (.slice e)) (hi : P.info? e = some i) (hz : i.zero = some z)
    (hsize : i.size = size) (hby : i.bytes = bytes) (hzs : z.cells.size = size) (hsz : 0 < size)
    (v : Value) (n : Nat) (xs : List Value) (hs : a.eval s = v) (hown : w.ownsRow base e size v n xs)
    (ad : Addr) (m c : Nat) (news : List Value) (hx : a.eval x = .slice (some ad) m c) (hl : news.length = m * size) (hnews : ∀ j u, news[j]? = some u → w.cell? (ad.add j) = some u) (h1 : ∀ u ∈ news, u.oneCell' = true) (hm : 0 < m)
    (h63 : n + m ≤ maxLen) (hbytes : (n + m) * bytes ≤ 140737488355328) (hbase : base ≤ w.heap.size)
    (h : ∀ v' w', w'.ownsRow base e size v' (n + m) (xs ++ news) → w.grownBy w' v.ownBlock → (v'.ownBlock = v.ownBlock ∨ v'.ownBlock = some w.heap.size) → K (a.put o.dst v') w') : o.wp P a w K Q := by
  obtain ⟨v', w', hr, h2, h3, _⟩ := run_append_own (P := P) w base t o.type e i z size bytes ht hi hz hsize hby hzs hsz v n xs hown ad m c news hl hnews h1 h63 hbytes hbase
  have h5 := run_append_where (P := P) w base t o.type e i z size bytes ht hi hz hsize hby v n xs hown ad m c news hl hnews h1 hm h63 hbytes v' w' hr
  unfold Oper.wp execOp
  simp only [ho, resolve, invoke, builtin, Sem.run_bind, Sem.run_pure, Result.andThen_ok, List.map_toArray, List.map_cons, List.map_nil, hs, hx, hr]
  exact h v' w' h2 h3 h5
end

/-- In W two rows lie, and the stream of a law that began in w0. -/
structure Two (w0 W : World) (ad : Option Addr) (zs : List Int) (cap : Nat) (b : Int) (v1 v2 : Value) (l1 l2 : List Int) : Prop where
  live : Live W w0.heap.size w0.heap.size ad zs cap b
  r1 : OwnI w0.heap.size v1 l1 w0 W
  r2 : OwnI w0.heap.size v2 l2 w0 W
  ne : ∀ k, v1.ownBlock = some k → v2.ownBlock ≠ some k

section
variable {w0 W : World} {ad : Option Addr} {zs : List Int} {cap : Nat} {b : Int} {v1 v2 : Value} {l1 l2 : List Int}

theorem Two.turn (h : Two w0 W ad zs cap b v1 v2 l1 l2) {W' : World} {b' : Int} (hL : Live W' w0.heap.size w0.heap.size ad zs cap b') (hT : Turns w0.heap.size W W') : Two w0 W' ad zs cap b' v1 v2 l1 l2 :=
  ⟨hL, h.r1.turns h.live.st (by decide) (Nat.le_refl _) hT, h.r2.turns h.live.st (by decide) (Nat.le_refl _) hT, h.ne⟩

theorem Two.swap (h : Two w0 W ad zs cap b v1 v2 l1 l2) : Two w0 W ad zs cap b v2 v1 l2 l1 :=
  ⟨h.live, h.r2, h.r1, fun k h2 h1 => h.ne k h1 h2⟩

theorem Two.start (w : World) (ad : Option Addr) (zs : List Int) (cap : Nat) (hz : IntsAt w w.heap.size ad zs) (hl : zs.length ≤ 9223372036854775807) : Two w (w.alloc (.cells #[.slice ad zs.length cap, .int .i64 0] 25)) ad zs cap 0 (.slice none 0 0) (.slice none 0 0) [] [] :=
  ⟨⟨heap_alloc_new' _ _, hz.below ((Below.refl _ _).alloc (Nat.le_refl _) _), Nat.le_refl _, hl, Int.le_refl _⟩, Own.alloc (OwnI.start w) _, Own.alloc (OwnI.start w) _, fun k hk => by simp [Value.ownBlock] at hk⟩

/-- A number joins the first row. -/
theorem Two.append {o : Oper} {a : Act} {K : Act → World → Prop} {Q : Exit → Act → World → Prop} (s x : Operand)
    (ho : o.op = .call { callee := .builtin .append, args := #[s, x], argTypes := #[22, 22] })
    (h : Two w0 W ad zs cap b v1 v2 l1 l2) (y : Int) (hlen : l1.length + 1 ≤ 1000) (hs : a.eval s = v1) (hx : ∃ G, a.eval x = .slice (some ⟨G, 0, none⟩) 1 1 ∧ W.heap.size = G)
    (hk : ∀ v' w', Two w0 w' ad zs cap b v' v2 (l1 ++ [y]) l2 → K (a.put o.dst v') w') : o.wp Tryz.prog a (W.alloc (.cells #[.int .i64 y] 3)) K Q := by
  obtain ⟨i, hi, hz, hsi, hby⟩ := info_parts Tryz.info3'
  obtain ⟨G, hx, rfl⟩ := hx
  have hnew := heap_alloc_new' W (.cells #[.int .i64 y] 3)
  have hsz := ex_alloc_size W (.cells #[.int .i64 y] 3)
  have hL := h.live.alloc (.cells #[.int .i64 y] 3)
  have hA1 := Own.alloc h.r1 (.cells #[.int .i64 y] 3)
  have hA2 := Own.alloc h.r2 (.cells #[.int .i64 y] 3)
  have hlt2 := fun k hk => (own_lt h.r2.1 k hk).2
  refine wp_append_own2 _ s x 22 ho w0.heap.size 3 i _ 1 8 Tryz.under22 hi hz hsi hby rfl (by decide) v1 l1.length _ hs hA1.1 ⟨W.heap.size, 0, none⟩ 1 1 [.int .i64 y] hx rfl ?_ ?_ (by decide) (by unfold maxLen; omega) (by omega) hA1.2.2 ?_
  · intro j u hj
    match j, hj with
    | 0, hj =>
      simp at hj
      subst hj
      have ha : (⟨W.heap.size, 0, none⟩ : Addr).add 0 = ⟨W.heap.size, 0, none⟩ := by simp [Addr.add]
      rw [ha]
      unfold World.cell?
      rw [hnew]
      rfl
    | (j + 1), hj => simp at hj
  · intro u hu
    simp only [List.mem_cons, List.mem_nil_iff, or_false] at hu
    subst hu
    rfl
  · intro v' w' ho' hg hw
    have hbel : Below w0.heap.size (W.alloc (.cells #[.int .i64 y] 3)) w' := (Below.refl _ _).grown hg hA1.2.2 (fun k hk => (own_lt hA1.1 k hk).1)
    refine hk v' w' ⟨⟨?_, hL.ints.below hbel, hL.le, hL.len, hL.pos⟩, ?_, ?_, ?_⟩
    · exact (hg.block _ hL.lt (own_ne hA1.1 hL.st (by decide))).trans hL.st
    · have := Own.grown hA1 ho' hg
      unfold OwnI
      rw [List.length_append, List.map_append]
      exact this
    · refine ⟨hA2.1.kept hg ?_, hA2.2.1.trans hbel, Nat.le_trans hA2.2.2 hg.size⟩
      cases e2 : v2.ownBlock with
      | none => exact .inl rfl
      | some k => exact .inr fun e => h.ne k e.symm e2
    · intro k hk2
      rcases hw with e | e
      · exact h.ne k (by rw [← e]; exact hk2)
      · rw [e] at hk2
        intro e2
        have := hlt2 k e2
        simp only [Option.some.injEq] at hk2
        omega

theorem Two.append1 {ops : Array Oper} {rest : List Oper} {o : Oper} {a : Act} {Q : Exit → Act → World → Prop} (hgd : o.guard = none) (s x : Operand)
    (ho : o.op = .call { callee := .builtin .append, args := #[s, x], argTypes := #[22, 22] })
    (h : Two w0 W ad zs cap b v1 v2 l1 l2) (y : Int) (hlen : l1.length + 1 ≤ 1000) (hs : a.eval s = v1) (hx : ∃ G, a.eval x = .slice (some ⟨G, 0, none⟩) 1 1 ∧ W.heap.size = G)
    (hk : ∀ v' w', Two w0 w' ad zs cap b v' v2 (l1 ++ [y]) l2 → wpList Tryz.prog ops Q rest (a.put o.dst v') w') : wpList Tryz.prog ops Q (o :: rest) a (W.alloc (.cells #[.int .i64 y] 3)) :=
  wpList_plain hgd fun _ hK => h.append s x ho y hlen hs hx fun v' w' h2 => hK _ _ (hk v' w' h2)

theorem Two.append2 {ops : Array Oper} {rest : List Oper} {o : Oper} {a : Act} {Q : Exit → Act → World → Prop} (hgd : o.guard = none) (s x : Operand)
    (ho : o.op = .call { callee := .builtin .append, args := #[s, x], argTypes := #[22, 22] })
    (h : Two w0 W ad zs cap b v1 v2 l1 l2) (y : Int) (hlen : l2.length + 1 ≤ 1000) (hs : a.eval s = v2) (hx : ∃ G, a.eval x = .slice (some ⟨G, 0, none⟩) 1 1 ∧ W.heap.size = G)
    (hk : ∀ v' w', Two w0 w' ad zs cap b v1 v' l1 (l2 ++ [y]) → wpList Tryz.prog ops Q rest (a.put o.dst v') w') : wpList Tryz.prog ops Q (o :: rest) a (W.alloc (.cells #[.int .i64 y] 3)) :=
  h.swap.append1 hgd s x ho y hlen hs hx fun v' w' h2 => hk v' w' h2.swap

theorem OwnI.lies {B : Nat} {v : Value} {l : List Int} {W0 w : World} (h : OwnI B v l W0 w) : ∃ ad cap p f, v = .slice ad l.length cap ∧ (0 < l.length → ad = some ⟨p, 0, none⟩) ∧ Given w p 0 l.length f := by
  rcases h.1.2 with ⟨hv, hn⟩ | ⟨g, cap, cur, hv, hb, hg, _⟩
  · exact ⟨none, 0, 0, fun _ => 0, by rw [hv, hn], fun h => by omega, fun j hj => by omega⟩
  · have hc := h.1.cells (g := g) (by rw [hv]; rfl)
    refine ⟨_, cap, g, fun j => l.getD j 0, hv, fun _ => rfl, fun j hj => ?_⟩
    have h0 := hc j (.int .i64 (l.getD j 0)) (by simp [List.getD, hj])
    have ha : (⟨g, 0, none⟩ : Addr).add j = ⟨g, 0 + j, none⟩ := by simp [Addr.add]; omega
    rw [ha] at h0
    exact h0
end
end Go.Proofs
