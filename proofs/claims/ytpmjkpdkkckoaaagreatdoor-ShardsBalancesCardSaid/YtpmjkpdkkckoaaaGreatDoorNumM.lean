/- Rows of numbers and rows of places in the world; a load moves. No condition. -/
import Derived.Test.YtpmjkpdkkckoaaaGreatDoorStrmM
import Derived.Test.YtpmjkpdkkckoaaaGreatDoorShelfM
import Derived.Test.YtpmjkpdkkckoaaaGreatDoorLevel
import Derived.Lib.Hide
namespace Go.Proofs
open Go.RowKit Go.Level

/-- A row of numbers that may be written: the first n cells of block b. -/
def Nums (w : World) (b n : Nat) (f : Nat → Int) : Prop := 0 < n → ∃ cs, w.heap[b]? = some (.cells cs 3 (0, 0)) ∧ n ≤ cs.size ∧ ∀ j, j < n → cs[j]? = some (.int .i64 (f j))

theorem Nums.lt {w : World} {b n : Nat} {f : Nat → Int} (h : Nums w b n f) (hn : 0 < n) : b < w.heap.size := by
  obtain ⟨cs, h1, _⟩ := h hn
  exact blk_lt h1

theorem Nums.next {w w' : World} {b n : Nat} {f : Nat → Int} (h : Nums w b n f) (hb : Below w.heap.size w w') : Nums w' b n f := fun hn => by
  obtain ⟨cs, h1, h2⟩ := h hn
  exact ⟨cs, (hb.block _ (blk_lt h1)).trans h1, h2⟩

theorem Nums.keep {w w' : World} {b n : Nat} {f : Nat → Int} (h : Nums w b n f) (hk : w'.heap[b]? = w.heap[b]?) : Nums w' b n f := fun hn => by
  obtain ⟨cs, h1, h2⟩ := h hn
  exact ⟨cs, hk.trans h1, h2⟩

theorem Nums.cell {w : World} {b n : Nat} {f : Nat → Int} (h : Nums w b n f) {j : Nat} (hj : j < n) : w.cell? ⟨b, j, none⟩ = some (.int .i64 (f j)) ∧ w.frozen? ⟨b, j, none⟩ = false := by
  obtain ⟨cs, h1, h2, h3⟩ := h (by omega)
  have := h3 j hj
  exact ⟨by simp [World.cell?, h1, this], by simp [World.frozen?, h1]⟩

theorem Nums.set {w : World} {b n : Nat} {f g : Nat → Int} (h : Nums w b n f) {i : Nat} {v : Int} (hv : v = g i) (hg : ∀ j, j ≠ i → g j = f j) : Nums (w.setCell ⟨b, i, none⟩ (.int .i64 v)) b n g := fun hn => by
  obtain ⟨cs, h1, h2, h3⟩ := h hn
  refine ⟨_, block_set h1, by rw [Array.size_setIfInBounds]; exact h2, fun j hj => ?_⟩
  rw [Array.getElem?_setIfInBounds]
  by_cases e : i = j
  · subst e
    rw [if_pos rfl, if_pos (by omega), hv]
  · rw [if_neg e, hg j (fun h => e h.symm)]
    exact h3 j hj

theorem Nums.ext {w : World} {b n : Nat} {f g : Nat → Int} (h : Nums w b n f) (hg : ∀ j, j < n → g j = f j) : Nums w b n g := fun hn => by
  obtain ⟨cs, h1, h2, h3⟩ := h hn
  exact ⟨cs, h1, h2, fun j hj => by rw [hg j hj]; exact h3 j hj⟩

theorem Nums.made (w : World) (k : Nat) : Nums (w.alloc (.cells (Array.replicate k (.int .i64 0)) 3)) w.heap.size k fun _ => 0 := fun _ =>
  ⟨_, heap_alloc_new' _ _, by simp, fun j hj => by simp [hj]⟩

/-- What the world holds there, read as a number. -/
def cellI (w : World) (b : Nat) : Nat → Int := fun j => match w.cell? ⟨b, j, none⟩ with
  | some (.int _ x) => x
  | _ => 0

theorem Nums.read {w : World} {b n : Nat} {f : Nat → Int} (h : Nums w b n f) {j : Nat} (hj : j < n) : cellI w b j = f j := by
  unfold cellI
  rw [(h.cell hj).1]

/-- A row that a caller handed: n numbers, read only. -/
def Given (w : World) (p o n : Nat) (f : Nat → Int) : Prop := ∀ j, j < n → w.cell? ⟨p, o + j, none⟩ = some (.int .i64 (f j))

theorem Given.next {w w' : World} {p o n : Nat} {f : Nat → Int} (h : Given w p o n f) (hb : Below w.heap.size w w') : Given w' p o n f := fun j hj => cell_kept hb (h j hj)

theorem Tryz.within (x lo hi : Int) (w : World) : Calls Tryz.prog 15 #[.int .i64 x, .int .i64 lo, .int .i64 hi] w fun e w' => e = .returned (.bool (decide (lo ≤ x ∧ x ≤ hi))) ∧ w' = w := by
  by_cases h1 : lo ≤ x
  · go_enter Tryz.func15, Tryz.ntmps15
    go_wp2_with fail
    go_ret
    exact ⟨by simp [h1], rfl⟩
  · go_enter Tryz.func15, Tryz.ntmps15
    go_wp2_with fail
    go_ret
    exact ⟨by simp; omega, rfl⟩

theorem owned_nums {w : World} {B : Nat} {v : Value} {n : Nat} {f : Nat → Int} (h : w.ownsRow B 3 1 v n ((listOf f n).map (Value.int .i64))) : ∃ ad c g, v = .slice ad n c ∧ B ≤ g ∧ (0 < n → ad = some ⟨g, 0, none⟩) ∧ Nums w g n f := by
  rcases h.2 with ⟨hv, hn⟩ | ⟨g, cap, cur, hv, hb, hg, _⟩
  · exact ⟨none, 0, B, by rw [hv, hn], Nat.le_refl _, fun h => by omega, fun h => by omega⟩
  · have hc := h.cells (g := g) (by rw [hv]; rfl)
    have hl : ∀ j, j < n → ((listOf f n).map (Value.int .i64))[j]? = some (.int .i64 (f j)) := fun j hj => by simp [listOf, hj]
    refine ⟨_, cap, g, hv, hb, fun _ => rfl, fun hn => ⟨cur, hg, ?_, fun j hj => ?_⟩⟩
    · have h0 := hc (n - 1) _ (hl (n - 1) (by omega))
      have ha : (⟨g, 0, none⟩ : Addr).add (n - 1) = ⟨g, n - 1, none⟩ := by simp [Addr.add]; omega
      rw [ha] at h0
      simp [World.cell?, hg] at h0
      have := (Array.getElem?_eq_some_iff.1 h0).1
      omega
    · have h0 := hc j _ (hl j hj)
      have ha : (⟨g, 0, none⟩ : Addr).add j = ⟨g, j, none⟩ := by simp [Addr.add]; omega
      rw [ha] at h0
      simpa [World.cell?, hg] using h0

theorem Tryz.clone {w : World} {ad : Option Addr} {p o n : Nat} {f : Nat → Int} (c : Nat) (had : 0 < n → ad = some ⟨p, o, none⟩) (h : Given w p o n f) (hn : n ≤ 1000) :
    Calls Tryz.prog 16 #[.slice ad n c] w fun e w' => ∃ ad' c' g, e = .returned (.slice ad' n c') ∧ w.heap.size ≤ g ∧ (0 < n → ad' = some ⟨g, 0, none⟩) ∧ Nums w' g n f ∧ Below w.heap.size w w' := by
  by_cases h0 : n = 0
  · subst h0
    cases ad with
    | none =>
      refine (Tryz.slices_Clone_int_nil 0 c w).mono ?_
      rintro e w' ⟨rfl, rfl⟩
      exact ⟨none, 0, w'.heap.size, rfl, Nat.le_refl _, fun h => by omega, fun h => by omega, Below.refl _ _⟩
    | some a =>
      refine (Tryz.slices_Clone_int_zero a c w).mono ?_
      rintro e w' ⟨v', rfl, ho, _, hb⟩
      obtain ⟨ad', c', g, rfl, h1, h2, h3⟩ := owned_nums (f := f) ho
      exact ⟨ad', c', g, rfl, h1, h2, h3, hb⟩
  · obtain rfl := had (by omega)
    refine (Tryz.slices_Clone_int p o n c (listOf f n) w (by rw [listOf_len]; omega) (by omega) (fun j hj => ?_)).mono ?_
    · rw [listOf_len] at hj
      rw [listOf_get f hj]
      exact h j hj
    · rintro e w' ⟨v', rfl, ho, _, hb⟩
      rw [List.take_of_length_le (by rw [listOf_len]; omega)] at ho
      obtain ⟨ad', c', g, rfl, h1, h2, h3⟩ := owned_nums ho
      exact ⟨ad', c', g, rfl, h1, h2, h3, hb⟩

section
variable {w : World} {b k : Nat} {S : Nat → Int}

theorem Nums.list (h : Nums w b k S) : ∀ j, j < (listOf S k).length → w.cell? ⟨b, 0 + j, none⟩ = some (.int .i64 ((listOf S k).getD j 0)) := fun j hj => by
  rw [listOf_len] at hj
  rw [listOf_get S hj, Nat.zero_add]
  exact (h.cell hj).1

theorem Tryz.maxN (h : Nums w b k S) (hk : 0 < k) (hk8 : k ≤ 8) (c : Nat) : Calls Tryz.prog 18 #[.slice (some ⟨b, 0, none⟩) k c] w fun e w' => e = .returned (.int .i64 (S (hiN S k))) ∧ w' = w := by
  refine (Tryz.slices_Max_int b 0 k c (listOf S k) w hk (by rw [listOf_len]; omega) (by omega) h.list).mono ?_
  rintro e w' ⟨rfl, rfl⟩
  exact ⟨by rw [maxOf_eq S k k hk (Nat.le_refl _)], rfl⟩

theorem Tryz.minN (h : Nums w b k S) (hk : 0 < k) (hk8 : k ≤ 8) (c : Nat) : Calls Tryz.prog 19 #[.slice (some ⟨b, 0, none⟩) k c] w fun e w' => e = .returned (.int .i64 (S (loN S k))) ∧ w' = w := by
  refine (Tryz.slices_Min_int b 0 k c (listOf S k) w hk (by rw [listOf_len]; omega) (by omega) h.list).mono ?_
  rintro e w' ⟨rfl, rfl⟩
  exact ⟨by rw [minOf_eq S k k hk (Nat.le_refl _)], rfl⟩

theorem Tryz.idxHi (h : Nums w b k S) (hk : 0 < k) (hk8 : k ≤ 8) (c : Nat) : Calls Tryz.prog 17 #[.slice (some ⟨b, 0, none⟩) k c, .int .i64 (S (hiN S k))] w fun e w' => e = .returned (.int .i64 (hiN S k)) ∧ w' = w := by
  refine (Tryz.slices_Index_int b 0 k c (listOf S k) _ w (by rw [listOf_len]; omega) (by omega) h.list).mono ?_
  rintro e w' ⟨rfl, rfl⟩
  exact ⟨by rw [idx_hi S k hk], rfl⟩

theorem Tryz.idxLo (h : Nums w b k S) (hk : 0 < k) (hk8 : k ≤ 8) (c : Nat) : Calls Tryz.prog 17 #[.slice (some ⟨b, 0, none⟩) k c, .int .i64 (S (loN S k))] w fun e w' => e = .returned (.int .i64 (loN S k)) ∧ w' = w := by
  refine (Tryz.slices_Index_int b 0 k c (listOf S k) _ w (by rw [listOf_len]; omega) (by omega) h.list).mono ?_
  rintro e w' ⟨rfl, rfl⟩
  exact ⟨by rw [idx_lo S k hk], rfl⟩
end

end Go.Proofs

namespace Go.Proofs
open Go.RowKit Go.Level

/-- The loads that do not lie where they lay, the first m looked at. -/
def cntN (H A : Nat → Int) : Nat → Nat
  | 0 => 0
  | m + 1 => cntN H A m + if A m = H m then 0 else 1

def placesV (H A : Nat → Int) : Nat → List Value
  | 0 => []
  | m + 1 => placesV H A m ++ if A m = H m then [] else [.int .i64 m, .int .i64 (H m), .int .i64 (A m), .int .i64 0]

theorem cnt_le (H A : Nat → Int) : ∀ m, cntN H A m ≤ m
  | 0 => Nat.le_refl _
  | m + 1 => by
    have := cnt_le H A m
    rw [cntN]
    split <;> omega

theorem places_len (H A : Nat → Int) : ∀ m, (placesV H A m).length = cntN H A m * 4
  | 0 => rfl
  | m + 1 => by
    rw [placesV, cntN, List.length_append, places_len H A m]
    split
    · rfl
    · rw [Nat.add_mul]; rfl

/-- A row of places. -/
def Plc (B : Nat) (v : Value) (n : Nat) (xs : List Value) (W0 w : World) : Prop := Own B 37 4 v n xs W0 w

theorem Tryz.info37' : (Tryz.prog.info? 37).map (fun i => (i.zero, i.size, i.bytes)) = some (some (.agg #[.int .i64 0, .int .i64 0, .int .i64 0, .int .i64 0]), 4, 32) := by kernel_rfl
theorem Tryz.under31 : Tryz.prog.underlying 31 = some (.slice 37) := by kernel_rfl

/-- A place joins the row. -/
theorem append_place {ops : Array Oper} {rest : List Oper} {o : Oper} {a : Act} {Q : Exit → Act → World → Prop} (hgd : o.guard = none) (s z : Operand)
    (ho : o.op = .call { callee := .builtin .append, args := #[s, z], argTypes := #[31, 31] })
    {B : Nat} {v : Value} {n : Nat} {xs : List Value} {W0 w0 : World} (hb : Plc B v n xs W0 w0) {x1 x2 x3 : Int} (hlen : n + 1 ≤ 1000) (hs : a.eval s = v)
    (hx : ∃ G, a.eval z = .slice (some ⟨G, 0, none⟩) 1 1 ∧ w0.heap.size = G)
    (h : ∀ v' w', Plc B v' (n + 1) (xs ++ [.int .i64 x1, .int .i64 x2, .int .i64 x3, .int .i64 0]) W0 w' → Boxes 3 w0 w' → wpList Tryz.prog ops Q rest (a.put o.dst v') w') : wpList Tryz.prog ops Q (o :: rest) a (w0.alloc (.cells #[.int .i64 x1, .int .i64 x2, .int .i64 x3, .int .i64 0] 37)) := by
  obtain ⟨i, hi, hz, hsize, hby⟩ := info_parts Tryz.info37'
  obtain ⟨G, hx, rfl⟩ := hx
  have hb' : Own B 37 4 v n xs W0 (w0.alloc (.cells #[.int .i64 x1, .int .i64 x2, .int .i64 x3, .int .i64 0] 37)) := Own.alloc hb _
  have hnew := heap_alloc_new' w0 (.cells #[.int .i64 x1, .int .i64 x2, .int .i64 x3, .int .i64 0] 37)
  refine wpList_append_own _ hgd s z 31 ho B 37 i _ 4 32 Tryz.under31 hi hz hsize hby rfl (by decide) v n xs hs hb'.1 ⟨w0.heap.size, 0, none⟩ 1 1 [.int .i64 x1, .int .i64 x2, .int .i64 x3, .int .i64 0] hx rfl ?_ ?_ (by unfold maxLen; omega) (by omega) hb'.2.2 ?_
  · intro j u hj
    have ha : (⟨w0.heap.size, 0, none⟩ : Addr).add j = ⟨w0.heap.size, j, none⟩ := by simp [Addr.add]; omega
    rw [ha]
    unfold World.cell?
    rw [hnew]
    show (#[Value.int .i64 x1, .int .i64 x2, .int .i64 x3, .int .i64 0] : Array Value)[j]? = _
    rw [← hj]
    simp
  · intro u hu
    simp only [List.mem_cons, List.mem_nil_iff, or_false] at hu
    rcases hu with rfl | rfl | rfl | rfl <;> rfl
  · intro v' w' ho' hg _
    have hsz := ex_alloc_size w0 (.cells #[.int .i64 x1, .int .i64 x2, .int .i64 x3, .int .i64 0] 37)
    refine h v' w' (hb'.grown ho' hg) ?_
    obtain ⟨g1, g2⟩ := hb'.boxes hg (t := 3) (by decide)
    exact ⟨by omega, fun g cs fr hh => g2 g cs fr ((heap_alloc_old w0 _ (blk_lt hh)).trans hh)⟩

theorem Nums.boxes {w w' : World} {b n : Nat} {f : Nat → Int} (h : Nums w b n f) (hb : Boxes 3 w w') : Nums w' b n f := fun hn => by
  obtain ⟨cs, h1, h2⟩ := h hn
  exact ⟨cs, hb.2 _ _ _ h1, h2⟩

/-- Two answers of a levelling: their rows of places hold the same. -/
theorem Plc.slice {B : Nat} {v : Value} {n : Nat} {xs : List Value} {W0 w : World} (h : Plc B v n xs W0 w) : ∃ ad cap g, v = .slice ad n cap ∧ (0 < n → ad = some ⟨g, 0, none⟩) ∧ (0 < n → g < w.heap.size ∧ ∀ j y, xs[j]? = some y → w.cell? ⟨g, j, none⟩ = some y) := by
  rcases h.1.2 with ⟨hv, hn⟩ | ⟨g, cap, cur, hv, hb, hg, _⟩
  · exact ⟨none, 0, 0, by rw [hv, hn], fun h => by omega, fun h => by omega⟩
  · refine ⟨some ⟨g, 0, none⟩, cap, g, hv, fun _ => rfl, fun _ => ⟨blk_lt hg, fun j y hj => ?_⟩⟩
    have hc := h.1.cells (g := g) (by rw [hv]; rfl) j y hj
    have ha : (⟨g, 0, none⟩ : Addr).add j = ⟨g, j, none⟩ := by simp [Addr.add]; omega
    rwa [ha] at hc

end Go.Proofs

namespace Go.Proofs
open Go.RowKit Go.Level

theorem Tryz.info3' : (Tryz.prog.info? 3).map (fun i => (i.zero, i.size, i.bytes)) = some (some (.int .i64 0), 1, 8) := by kernel_rfl
theorem Tryz.under22 : Tryz.prog.underlying 22 = some (.slice 3) := by kernel_rfl

theorem make_nums {k : Nat} (hk : k ≤ 1000) : ∃ cs : Array Value, cs.size = k ∧ (∀ j, j < k → cs[j]? = some (.int .i64 0)) ∧ ∀ w : World, (Instr.makeSlice 22 (.int .i64 k) (.int .i64 k)).run Tryz.prog w = .ok (.slice (some ⟨w.heap.size, 0, none⟩) k k) (w.alloc (.cells cs 3)) := by
  obtain ⟨i, hi1, hz1, hs1, hb1⟩ := info_parts Tryz.info3'
  refine ⟨madeCells (Value.cells (.int .i64 0)) (k * 1), by rw [size_madeCells]; omega, fun j hj => ?_, fun w => ?_⟩
  · have h1 := toList_madeCells_one (.int .i64 0) (k * 1)
    show (madeCells #[.int .i64 0] (k * 1))[j]? = _
    rw [← Array.getElem?_toList, h1, List.getElem?_replicate, if_pos (by omega)]
  · have hr := run_make (P := Tryz.prog) w 22 3 i (.int .i64 0) Tryz.under22 hi1 hz1 .i64 .i64 k k (by omega) (Int.le_refl _) (by rw [hb1, ← Int.natCast_mul]; omega) (by omega)
    rw [hs1] at hr
    simpa only [Int.toNat_natCast] using hr

theorem cell_set_ne {w : World} {g g' i j : Nat} {u v : Value} (h : g ≠ g') (hc : w.cell? ⟨g', j, none⟩ = some u) : (w.setCell ⟨g, i, none⟩ v).cell? ⟨g', j, none⟩ = some u := by
  unfold World.cell? at hc ⊢
  rw [block_set_ne h]
  exact hc

theorem cell_blk {w : World} {g j : Nat} {u : Value} (hc : w.cell? ⟨g, j, none⟩ = some u) : g < w.heap.size := by
  cases hp : w.heap[g]? with
  | none => simp [World.cell?, hp] at hc
  | some o => exact blk_lt hp

theorem cell_alloc {w : World} {g j : Nat} {u : Value} (o : Obj) (hc : w.cell? ⟨g, j, none⟩ = some u) : (w.alloc o).cell? ⟨g, j, none⟩ = some u := cell_kept ((Below.refl _ _).alloc (Nat.le_refl _) _) hc

theorem cell_keep {w0 w' : World} {v : Value} (hk : ∀ (p : Nat) (o : Obj), p < w0.heap.size → some p ≠ v.ownBlock → w0.heap[p]? = some o → w'.heap[p]? = some o) {p j : Nat} {u : Value} (hp : some p ≠ v.ownBlock) (hc : w0.cell? ⟨p, j, none⟩ = some u) : w'.cell? ⟨p, j, none⟩ = some u := by
  have hlt := cell_blk hc
  unfold World.cell? at hc ⊢
  cases ho : w0.heap[p]? with
  | none => simp [ho] at hc
  | some o =>
    rw [hk p o hlt hp ho]
    rw [ho] at hc
    exact hc

theorem hi_le (S : Nat → Int) {m k : Nat} (hk : 0 < k) (hm : m ≤ k) : hiN S m < k := by
  cases m with
  | zero => simpa [hiN] using hk
  | succ m => have := hi_lt S (m + 1) (by omega); omega

theorem lo_le (S : Nat → Int) {m k : Nat} (hk : 0 < k) (hm : m ≤ k) : loN S m < k := by
  cases m with
  | zero => simpa [loN] using hk
  | succ m => have := lo_lt S (m + 1) (by omega); omega

/-- Both sums are stored. -/
theorem Nums.moved {W : World} {b k m i f t : Nat} {L A : Nat → Int} {x y z : Int} (h : Nums W b k (sums L A m)) (hi : i < m) (hA : A i = f) (hft : f ≠ t) (hx : sums L A m f = x) (hy : sums L A m t = y) (hz : L i = z) :
    Nums ((W.setCell ⟨b, f, none⟩ (.int .i64 (x - z))).setCell ⟨b, t, none⟩ (.int .i64 (y + z))) b k (sums L (Level.move A i t) m) := by
  have hm := fun s => sum_move L A hA (f := f) (t := t) (by omega) s m
  have hx' : sumN L A f m = x := hx
  have hy' : sumN L A t m = y := hy
  refine (h.set (g := fun j => if j = f then x - z else sums L A m j) (i := f) (v := x - z) (by rw [if_pos rfl]) (fun j hj => by rw [if_neg hj])).set ?_ (fun j hj => ?_)
  · show _ = sumN L (Level.move A i t) t m
    rw [hm, if_pos hi, if_pos rfl, hy', hz]
  · show sumN L (Level.move A i t) j m = if j = f then x - z else sumN L A j m
    rw [hm, if_pos hi, if_neg (by omega)]
    by_cases e : j = f
    · subst e
      rw [if_pos rfl, if_pos rfl, hx', hz]
      omega
    · rw [if_neg (by omega), if_neg e]
      omega

/-- A place joins the row: in a region whose order is open. -/
theorem append_placeO {o : Oper} {a : Act} {K : Act → World → Prop} {Q : Exit → Act → World → Prop} (s z : Operand)
    (ho : o.op = .call { callee := .builtin .append, args := #[s, z], argTypes := #[31, 31] })
    {B : Nat} {v : Value} {n : Nat} {xs : List Value} {W0 w0 : World} (hb : Plc B v n xs W0 w0) {x1 x2 x3 : Int} (hlen : n + 1 ≤ 1000) (hs : a.eval s = v)
    (hx : ∃ G, a.eval z = .slice (some ⟨G, 0, none⟩) 1 1 ∧ w0.heap.size = G)
    (h : ∀ v' w', Plc B v' (n + 1) (xs ++ [.int .i64 x1, .int .i64 x2, .int .i64 x3, .int .i64 0]) W0 w' → Boxes 3 w0 w' → (∀ (p : Nat) (o : Obj), p < w0.heap.size → some p ≠ v.ownBlock → w0.heap[p]? = some o → w'.heap[p]? = some o) → K (a.put o.dst v') w') : o.wp Tryz.prog a (w0.alloc (.cells #[.int .i64 x1, .int .i64 x2, .int .i64 x3, .int .i64 0] 37)) K Q := by
  obtain ⟨i, hi, hz, hsize, hby⟩ := info_parts Tryz.info37'
  obtain ⟨G, hx, rfl⟩ := hx
  have hb' : Own B 37 4 v n xs W0 (w0.alloc (.cells #[.int .i64 x1, .int .i64 x2, .int .i64 x3, .int .i64 0] 37)) := Own.alloc hb _
  have hnew := heap_alloc_new' w0 (.cells #[.int .i64 x1, .int .i64 x2, .int .i64 x3, .int .i64 0] 37)
  refine wp_append_own _ s z 31 ho B 37 i _ 4 32 Tryz.under31 hi hz hsize hby rfl (by decide) v n xs hs hb'.1 ⟨w0.heap.size, 0, none⟩ 1 1 [.int .i64 x1, .int .i64 x2, .int .i64 x3, .int .i64 0] hx rfl ?_ ?_ (by unfold maxLen; omega) (by omega) hb'.2.2 ?_
  · intro j u hj
    have ha : (⟨w0.heap.size, 0, none⟩ : Addr).add j = ⟨w0.heap.size, j, none⟩ := by simp [Addr.add]; omega
    rw [ha]
    unfold World.cell?
    rw [hnew]
    show (#[Value.int .i64 x1, .int .i64 x2, .int .i64 x3, .int .i64 0] : Array Value)[j]? = _
    rw [← hj]
    simp
  · intro u hu
    simp only [List.mem_cons, List.mem_nil_iff, or_false] at hu
    rcases hu with rfl | rfl | rfl | rfl <;> rfl
  · intro v' w' ho' hg _
    have hsz := ex_alloc_size w0 (.cells #[.int .i64 x1, .int .i64 x2, .int .i64 x3, .int .i64 0] 37)
    refine h v' w' (hb'.grown ho' hg) ?_ fun p o hp hne hh => (hg.block p (by omega) hne).trans ((heap_alloc_old w0 _ hp).trans hh)
    obtain ⟨g1, g2⟩ := hb'.boxes hg (t := 3) (by decide)
    exact ⟨by omega, fun g cs fr hh => g2 g cs fr ((heap_alloc_old w0 _ (blk_lt hh)).trans hh)⟩

end Go.Proofs
