/- Numbers appended to a row; what the kind of an operation asks. No condition. -/
import Derived.Test.YtkpligcifakmjaaGreatDoorSkFit
import Derived.Deep.RegionLaw
namespace Go.Proofs
open Go.RowKit Go.Ke

theorem Tryz.info3' : (Tryz.prog.info? 3).map (fun i => (i.zero, i.size, i.bytes)) = some (some (.int .i64 0), 1, 8) := by kernel_rfl

def intCells (l : List Int) : List Value := l.map (Value.int .i64)

theorem intCells_snoc (l : List Int) (c : Int) : intCells (l ++ [c]) = intCells l ++ [.int .i64 c] := by simp [intCells]

def inRangeL (l : List Int) : Prop := ∀ k ∈ l, -9223372036854775808 ≤ k ∧ k ≤ 9223372036854775807

section
variable {P : Program}

/-- 'l = append(l, c)', c an int; boxes of another type stay. -/
theorem append_int {ops : Array Oper} {rest : List Oper} {o : Oper} {a : Act} {Q : Exit → Act → World → Prop} (hgd : o.guard = none) (s x : Operand) (t : TypeId)
    (ho : o.op = .call { callee := .builtin .append, args := #[s, x], argTypes := #[t, t] })
    (B : Nat) (e : TypeId) (i : TypeInfo) (ht : P.underlying t = some (.slice e)) (hi : P.info? e = some i) (hz : i.zero = some (.int .i64 0)) (hsize : i.size = 1) (hby : i.bytes = 8)
    (v : Value) (n : Nat) (xs : List Value) (W0 w0 : World) (hb : Own B e 1 v n xs W0 w0) (c : Int) (hlen : n + 1 ≤ 1000000000) (hs : a.eval s = v)
    (hx : ∃ G, a.eval x = .slice (some ⟨G, 0, none⟩) 1 1 ∧ w0.heap.size = G)
    (h : ∀ v' w', Own B e 1 v' (n + 1) (xs ++ [.int .i64 c]) W0 w' → (∀ u, u ≠ e → Boxes u w0 w') → wpList P ops Q rest (a.put o.dst v') w') : wpList P ops Q (o :: rest) a (w0.alloc (.cells #[.int .i64 c] e)) := by
  obtain ⟨G, hx, rfl⟩ := hx
  have hb' := hb.alloc (.cells #[.int .i64 c] e)
  refine wpList_append_own _ hgd s x t ho B e i (.int .i64 0) 1 8 ht hi hz hsize hby rfl (by decide) v n xs hs hb'.1 ⟨w0.heap.size, 0, none⟩ 1 1 [.int .i64 c] hx rfl ?_ ?_ (by unfold maxLen; omega) (by omega) hb'.2.2 ?_
  · intro j y hj
    match j, hj with
    | 0, hj => simp at hj; subst hj; simp [Addr.add]
    | (j + 1), hj => simp at hj
  · intro y hy; simp at hy; subst hy; rfl
  · intro v' w' ho' hg _
    refine h v' w' (hb'.grown ho' hg) fun u hne => ?_
    have hbx := hb'.boxes hg hne
    exact ⟨Nat.le_trans (by unfold World.alloc; simp) hbx.1, fun g cs fr hh => hbx.2 g cs fr ((heap_alloc_old w0 _ (Array.getElem?_eq_some_iff.1 hh).1).trans hh)⟩

end

theorem Own.ints {B : Nat} {v : Value} {l : List Int} {W0 w : World} (h : Own B 3 1 v l.length (intCells l) W0 w) (hr : inRangeL l) : ∃ ad cap, v = .slice ad l.length cap ∧ IntsAt w w.heap.size ad l := by
  rcases h.1.2 with ⟨hv, hn⟩ | ⟨g, cap, cur, hv, hb, hg, _⟩
  · refine ⟨none, 0, by rw [hv, hn], fun i hi => ?_⟩
    omega
  · refine ⟨some ⟨g, 0, none⟩, cap, hv, fun i hi => ⟨g, 0, rfl, (Array.getElem?_eq_some_iff.1 hg).1, ?_, hr _ (List.getElem_mem hi)⟩⟩
    have hc := h.1.cells (g := g) (by rw [hv]; rfl)
    have ha : ∀ j, (⟨g, 0, none⟩ : Addr).add j = ⟨g, 0 + j, none⟩ := fun j => by unfold Addr.add; split <;> simp_all
    have c0 := hc i (.int .i64 l[i]) (by simp [intCells, hi])
    rw [ha] at c0
    exact c0

theorem ints1 (w : World) (a : Int) (h : -9223372036854775808 ≤ a ∧ a ≤ 9223372036854775807) : IntsAt (w.alloc (.cells #[.int .i64 a] 3)) (w.heap.size + 1) (some ⟨w.heap.size, 0, none⟩) [a] := by
  intro i hi
  match i, hi with
  | 0, _ => exact ⟨_, _, rfl, Nat.lt_succ_self _, (by unfold World.cell?; rw [heap_alloc_new]; rfl), h⟩

theorem ints2 (w : World) (a b : Int) (h : -9223372036854775808 ≤ a ∧ a ≤ 9223372036854775807) (h2 : -9223372036854775808 ≤ b ∧ b ≤ 9223372036854775807) : IntsAt (w.alloc (.cells #[.int .i64 a, .int .i64 b] 3)) (w.heap.size + 1) (some ⟨w.heap.size, 0, none⟩) [a, b] := by
  intro i hi
  match i, hi with
  | 0, _ => exact ⟨_, _, rfl, Nat.lt_succ_self _, (by unfold World.cell?; rw [heap_alloc_new]; rfl), h⟩
  | 1, _ => exact ⟨_, _, rfl, Nat.lt_succ_self _, (by unfold World.cell?; rw [heap_alloc_new]; rfl), h2⟩

theorem ints3 (w : World) (a b c : Int) (h : -9223372036854775808 ≤ a ∧ a ≤ 9223372036854775807) (h2 : -9223372036854775808 ≤ b ∧ b ≤ 9223372036854775807) (h3 : -9223372036854775808 ≤ c ∧ c ≤ 9223372036854775807) :
    IntsAt (w.alloc (.cells #[.int .i64 a, .int .i64 b, .int .i64 c] 3)) (w.heap.size + 1) (some ⟨w.heap.size, 0, none⟩) [a, b, c] := by
  intro i hi
  match i, hi with
  | 0, _ => exact ⟨_, _, rfl, Nat.lt_succ_self _, (by unfold World.cell?; rw [heap_alloc_new]; rfl), h⟩
  | 1, _ => exact ⟨_, _, rfl, Nat.lt_succ_self _, (by unfold World.cell?; rw [heap_alloc_new]; rfl), h2⟩
  | 2, _ => exact ⟨_, _, rfl, Nat.lt_succ_self _, (by unfold World.cell?; rw [heap_alloc_new]; rfl), h3⟩

/-! What is folded over a tree. -/

mutual
def foldT (f : Node → List Int → Int × Int) : Ex → Int × Int
  | .mk x l => if (foldL f l).2 = 0 then f x (foldL f l).1 else (0, (foldL f l).2)
def foldL (f : Node → List Int → Int × Int) : List Ex → List Int × Int
  | [] => ([], 0)
  | a :: l => if (foldT f a).2 = 0 then (if (foldL f l).2 = 0 then ((foldT f a).1 :: (foldL f l).1, 0) else ([], (foldL f l).2)) else ([], (foldT f a).2)
end

theorem foldT_eq (f : Node → List Int → Int × Int) (e : Ex) : foldT f e = if (foldL f e.args).2 = 0 then f e.node (foldL f e.args).1 else (0, (foldL f e.args).2) := by cases e; rfl

theorem foldL_cons (f : Node → List Int → Int × Int) (a : Ex) (l : List Ex) : foldL f (a :: l) = if (foldT f a).2 = 0 then (if (foldL f l).2 = 0 then ((foldT f a).1 :: (foldL f l).1, 0) else ([], (foldL f l).2)) else ([], (foldT f a).2) := rfl

/-- What is behind, with what has been gathered. -/
def behindK (acc : List Int) (r : List Int × Int) : List Int × Int := if r.2 = 0 then (acc ++ r.1, 0) else ([], r.2)

theorem behindK_nil (f : Node → List Int → Int × Int) (l : List Ex) : behindK [] (foldL f l) = foldL f l := by
  cases l with
  | nil => rfl
  | cons a l =>
    unfold behindK
    rw [foldL_cons]
    by_cases h2 : (foldT f a).2 = 0
    · by_cases h3 : (foldL f l).2 = 0
      · simp [h2, h3]
      · simp [h2, h3]
    · simp [h2]

theorem behindK_good {f : Node → List Int → Int × Int} {a : Ex} {l : List Ex} (acc : List Int) (h : (foldT f a).2 = 0) : behindK acc (foldL f (a :: l)) = behindK (acc ++ [(foldT f a).1]) (foldL f l) := by
  unfold behindK
  rw [foldL_cons, if_pos h]
  by_cases h2 : (foldL f l).2 = 0
  · simp [h2]
  · simp [h2]

theorem behindK_bad {f : Node → List Int → Int × Int} {a : Ex} {l : List Ex} (acc : List Int) (h : ¬ (foldT f a).2 = 0) : behindK acc (foldL f (a :: l)) = ([], (foldT f a).2) := by
  unfold behindK
  rw [foldL_cons, if_neg h]
  simp [h]

theorem behindK_end (f : Node → List Int → Int × Int) (acc : List Int) : behindK acc (foldL f []) = (acc, 0) := by
  simp [behindK, foldL]

/-- Two folds are one where they are one at each part. -/
theorem fold_same {f g : Node → List Int → Int × Int} {ok : List Int → Prop} (hnil : ok []) (hcons : ∀ x k l, ok k → (f x k).2 = 0 → ok l → ok ((f x k).1 :: l)) (hfg : ∀ x k, ok k → f x k = g x k) : ∀ n : Nat,
    (∀ e : Ex, countT e ≤ n → foldT f e = foldT g e) ∧ (∀ l : List Ex, countL l ≤ n → foldL f l = foldL g l ∧ ((foldL f l).2 = 0 → ok (foldL f l).1)) := by
  intro n
  induction n with
  | zero =>
    refine ⟨fun e he => ?_, fun l hl => ?_⟩
    · cases e; unfold countT at he; omega
    · cases l with
      | nil => exact ⟨rfl, fun _ => hnil⟩
      | cons a l => cases a; unfold countL countT at hl; omega
  | succ n ih =>
    have hT : ∀ e : Ex, countT e ≤ n + 1 → foldT f e = foldT g e := by
      intro e he
      obtain ⟨x, l⟩ := e
      unfold countT at he
      obtain ⟨h1, h2⟩ := ih.2 l (by omega)
      unfold foldT
      rw [← h1]
      split
      · rename_i h0
        exact hfg x _ (h2 h0)
      · rfl
    refine ⟨hT, fun l => ?_⟩
    induction l with
    | nil => intro _; exact ⟨rfl, fun _ => hnil⟩
    | cons a l ihl =>
      intro hl
      unfold countL at hl
      have hca : 1 ≤ countT a := by cases a; unfold countT; omega
      obtain ⟨h1, h2⟩ := ihl (by omega)
      have h3 := hT a (by omega)
      rw [foldL_cons, foldL_cons, ← h1, ← h3]
      refine ⟨rfl, fun h0 => ?_⟩
      by_cases h4 : (foldT f a).2 = 0
      · by_cases h5 : (foldL f l).2 = 0
        · rw [if_pos h4, if_pos h5]
          obtain ⟨x, la⟩ := a
          unfold countT at hl
          obtain ⟨k1, k2⟩ := ih.2 la (by omega)
          have e : foldT f (.mk x la) = if (foldL f la).2 = 0 then f x (foldL f la).1 else (0, (foldL f la).2) := rfl
          rw [e] at h4 ⊢
          by_cases h6 : (foldL f la).2 = 0
          · rw [if_pos h6] at h4 ⊢
            exact hcons x _ _ (k2 h6) h4 (h2 h5)
          · rw [if_neg h6] at h4
            exact absurd h4 h6
        · rw [if_pos h4, if_neg h5] at h0; exact absurd h0 h5
      · rw [if_neg h4] at h0; exact absurd h0 h4
end Go.Proofs

namespace Go.Proofs
open Go.RowKit Go.Ke

theorem fits2 (a b : Int) (hb : b ≠ 0) : (fitsF 0 [a, b]).2 = ((a == 0) || (a == b)) := by
  unfold fitsF fitsF fitsF
  by_cases h0 : a = 0
  · subst h0; simp [hb]
  · by_cases h1 : a = b
    · subst h1; simp [h0]
    · simp [h0, h1, hb, Ne.symm h1]

def isR (l ks : List Int) (out : Int) : Int × Bool := (if fitsB l ks = true then out else 0, fitsB l ks)

theorem isR_true {l ks : List Int} (out : Int) (h : fitsB l ks = true) : isR l ks out = (out, true) := by unfold isR; rw [h]; rfl
theorem isR_false {l ks : List Int} (out : Int) (h : fitsB l ks = false) : isR l ks out = (0, false) := by unfold isR; rw [h]; rfl

set_option maxRecDepth 20000 in
theorem Tryz.isF (out : Int) (l ks : List Int) (ad kd : Option Addr) (cl ck g N M : Nat) (w : World) (hl : IntsAt w N ad l) (hk : IntsAt w M kd ks) (hN : N ≤ w.heap.size) (hM : M ≤ w.heap.size) (hlen : ks.length ≤ l.length) (hll : l.length ≤ 1000000000) (hks : ∀ k ∈ ks, k ≠ 0)
    (hg : w.heap[g]? = some (.cells #[.slice ad l.length cl] 28)) :
    Calls Tryz.prog 167 #[.int .i64 out, .slice kd ks.length ck, .pointer (some ⟨g, 0, none⟩)] w fun e w' => e = .returned (.tuple #[.int .i64 (isR l ks out).1, .bool (isR l ks out).2]) ∧ Below w.heap.size w w' := by
  have hgs : g < w.heap.size := (Array.getElem?_eq_some_iff.1 hg).1
  go_enter Tryz.func167, Tryz.ntmps167
  go_wp2_with fail
  go_loopw [13] (fun i wr => ∃ k : Nat, i = .int .i64 k ∧ k ≤ ks.length ∧ Hid (fitsB (l.drop k) (ks.drop k) = fitsB l ks) ∧ Below w.heap.size w wr) (fun i _ => ks.length - (intOf i).toNat)
  case atStart => exact ⟨0, rfl, Nat.zero_le _, Lib.hid rfl, Below.refl _ _⟩
  case round =>
    obtain ⟨k, rfl, hkk, hf, hwr⟩ := hrel
    by_cases hlt : k < ks.length
    · have hs := hwr.size
      obtain ⟨p, o, rfl, hp, c1, hr1, hr2⟩ := (hk.below (hwr.mono hM)) k hlt
      obtain ⟨q, r, rfl, hq, d1, hr3, hr4⟩ := (hl.below (hwr.mono hN)) k (by omega)
      have cg : wr.cell? ⟨g, 0, none⟩ = some (.slice (some ⟨q, r, none⟩) l.length cl) := by simp [World.cell?, (hwr.block g hgs).trans hg]
      have hkl : k < l.length := by omega
      have hst := fitsB_step (l := l) (ks := ks) hlt (by omega)
      have hb0 : ks[k] ≠ 0 := hks _ (List.getElem_mem hlt)
      rw [hf.out] at hst
      generalize l[k] = a at *
      generalize ks[k] = b at *
      have hc := Tryz.fitsR [a, b] (some ⟨wr.heap.size, 0, none⟩) 2 _ _ (ints2 wr a b ⟨hr3, hr4⟩ ⟨hr1, hr2⟩) (by simp)
      rw [fits2 a b hb0] at hc
      generalize (fitsF 0 [a, b]).1 = z at hc
      generalize ((a == 0) || (a == b)) = u at hc hst
      replace hst := Lib.hid hst
      clear hb0 hks hl hk hg
      cases u with
      | true =>
        go_wp2_with (first | (go_at_call 168; refine hc.mono ?_; rintro e w2 ⟨rfl, rfl⟩))
        go_roundw
        case rel => exact ⟨k + 1, by go_num, by omega, Lib.hid (by rw [hst.out]; simp), hwr.alloc hs _⟩
        case measure => simp [intOf]; omega
      | false =>
        go_wp2_with (first | (go_at_call 168; refine hc.mono ?_; rintro e w2 ⟨rfl, rfl⟩))
        go_ret2
        rw [isR_false out (hst.out.trans (Bool.false_and _))]
        exact ⟨rfl, hwr.alloc hs _⟩
    · have he : fitsB l ks = true := by
        rw [← hf.out, List.drop_of_length_le (show ks.length ≤ k by omega)]
        cases l.drop k <;> rfl
      replace he := Lib.hid he
      go_wp2_with fail
      go_ret2
      rw [isR_true out he.out]
      exact ⟨rfl, hwr⟩
end Go.Proofs
