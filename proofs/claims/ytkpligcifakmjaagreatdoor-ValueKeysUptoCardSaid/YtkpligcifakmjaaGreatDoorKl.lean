/- ValueKeys: value.Key, FromKey and Hash are as specified for all values and bytes. The list has at most 1048576 values and the bytes are at most 1048576; the listed variables of Go's library lie as they are laid. -/
import Derived.Test.YtkpligcifakmjaaGreatDoorUnk
import Derived.Laws.StructEq
import Derived.Deep.QuietTactic
import Derived.BigQuiet
namespace Go.Proofs
open Go.RowKit
open Go.Lib (byteCells strCells)

theorem guard23 (op : BinOp) (x y : Operand) (a b : Val) (W : World) : (eqGuard op 23 x y a.v b.v).run Tryz.prog W = .ok () W :=
  run_eqGuard_agg W op 23 x y _ _ (by kernel_rfl)

theorem eqIn23 (a : Val) (W : World) : (Op.equalIn 10000 23 a.v a.v).run Tryz.prog W = .ok true W := by
  have hf : Tryz.prog.underlying 23 = some (.struct (Tryz.prog.fieldsOf 23)) := by kernel_rfl
  unfold Val.v valV
  rw [show (10000 : Nat) = 9999 + 1 from rfl, run_equalIn_agg W 9999 23 _ _ hf (by kernel_rfl)]
  simp [go_sem, Tryz.underlying23, Tryz.underlying3, Tryz.underlying9]

theorem neq23 (k n : Int) (s : ByteArray) (W : World) : (binOp .neq 23 (.agg #[.int .i64 k, .int .i64 n, .string s]) (.agg #[.int .i64 k, .int .i64 n, .string s])).run Tryz.prog W = .ok (.bool false) W := by
  have h := eqIn23 ⟨k, n, s⟩ W
  unfold Val.v valV at h
  rw [run_neq_struct, h]
  simp

/-- At the address lie the values of a list. -/
def Row3 (w : World) (N : Nat) (ad : Option Addr) (l : List Val) : Prop :=
  ∀ i (h : i < l.length), ∃ p o, ad = some ⟨p, o, none⟩ ∧ p < N ∧ w.cell? ⟨p, o + i * 3, none⟩ = some (.int .i64 l[i].k) ∧ w.cell? ⟨p, o + i * 3 + 1, none⟩ = some (.int .i64 l[i].n) ∧ w.cell? ⟨p, o + i * 3 + 2, none⟩ = some (.string l[i].s)

theorem Row3.below {w w' : World} {N : Nat} {ad : Option Addr} {l : List Val} (h : Row3 w N ad l) (hb : Below N w w') : Row3 w' N ad l := by
  intro i hi
  obtain ⟨p, o, h1, h2, h3, h4, h5⟩ := h i hi
  exact ⟨p, o, h1, h2, (hb.cell h2).trans h3, (hb.cell h2).trans h4, (hb.cell h2).trans h5⟩

theorem Row3.later {w w' : World} {ad : Option Addr} {l : List Val} (h : Row3 w w.heap.size ad l) (hb : Below w.heap.size w w') : Row3 w' w'.heap.size ad l := by
  intro i hi
  obtain ⟨p, o, h1, h2, h3⟩ := h.below hb i hi
  exact ⟨p, o, h1, Nat.lt_of_lt_of_le h2 hb.size, h3⟩

theorem valCells_at (l : List Val) : ∀ (i : Nat) (h : i < l.length), (valCells l)[i * 3]? = some (.int .i64 l[i].k) ∧ (valCells l)[i * 3 + 1]? = some (.int .i64 l[i].n) ∧ (valCells l)[i * 3 + 2]? = some (.string l[i].s) := by
  induction l with
  | nil => intro i h; simp at h
  | cons x l ih =>
    intro i h
    have e : valCells (x :: l) = .int .i64 x.k :: .int .i64 x.n :: .string x.s :: valCells l := by simp [valCells]
    rw [e]
    match i, h with
    | 0, _ => simp
    | i + 1, h =>
      have := ih i (by simpa using h)
      rw [show (i + 1) * 3 = i * 3 + 1 + 1 + 1 by omega, show i * 3 + 1 + 1 + 1 + 1 = (i * 3 + 1) + 1 + 1 + 1 by omega, show i * 3 + 1 + 1 + 1 + 2 = (i * 3 + 2) + 1 + 1 + 1 by omega]
      simpa using this

theorem Own.row {B : Nat} {v : Value} {l : List Val} {W0 w : World} (h : Own B 23 3 v l.length (valCells l) W0 w) : ∃ ad cap, v = .slice ad l.length cap ∧ Row3 w w.heap.size ad l := by
  rcases h.1.2 with ⟨hv, hn⟩ | ⟨g, cap, cur, hv, hb, hg, _⟩
  · refine ⟨none, 0, by rw [hv, hn], fun i hi => ?_⟩
    omega
  · refine ⟨some ⟨g, 0, none⟩, cap, hv, fun i hi => ⟨g, 0, rfl, (Array.getElem?_eq_some_iff.1 hg).1, ?_⟩⟩
    have hc := h.1.cells (g := g) (by rw [hv]; rfl)
    have ha : ∀ j, (⟨g, 0, none⟩ : Addr).add j = ⟨g, 0 + j, none⟩ := fun j => by unfold Addr.add; split <;> simp_all
    obtain ⟨h0, h1, h2⟩ := valCells_at l i hi
    have c0 := hc _ _ h0
    have c1 := hc _ _ h1
    have c2 := hc _ _ h2
    rw [ha] at c0 c1 c2
    exact ⟨c0, c1, c2⟩

theorem belowDrewN' {N n : Nat} {w W : World} (h : Below N w W) : Below N w (W.drewN n) := ⟨h.1, h.2, h.3, h.4, h.5⟩

theorem Tryz.bytesEqual (K : List UInt8) (ad bd : Option Addr) (ca cb : Nat) (w : World) (ha : BytesAt w w.heap.size ad K) (hb : BytesAt w w.heap.size bd K) :
    Calls Tryz.prog 30 #[.slice ad K.length ca, .slice bd K.length cb] w fun e w' => e = .returned (.bool true) ∧ w = w' := by
  have h1 := ha.string ca
  have h2 := hb.string cb
  go_enter Tryz.func30, Tryz.ntmps30
  go_wp2_with fail
  go_ret
  simp

set_option maxRecDepth 20000 in
theorem Tryz.valuesEqual (l : List Val) (ad bd : Option Addr) (ca cb : Nat) (w : World) (ha : Row3 w w.heap.size ad l) (hb : Row3 w w.heap.size bd l) (la : l.length ≤ 1000000000) :
    Calls Tryz.prog 32 #[.slice ad l.length ca, .slice bd l.length cb] w fun e w' => e = .returned (.bool true) ∧ Below w.heap.size w w' := by
  have q2 := neq23
  go_enter Tryz.func32, Tryz.ntmps32
  go_wp2_with fail
  go_loopw [13] (fun i wr => ∃ k : Nat, i = .int .i64 k ∧ k ≤ l.length ∧ Below w.heap.size w wr) (fun i _ => l.length - (intOf i).toNat)
  case atStart => exact ⟨0, rfl, Nat.zero_le _, Below.refl _ _⟩
  case round =>
    obtain ⟨k, rfl, hkl, hw⟩ := hrel
    by_cases hlt : k < l.length
    · obtain ⟨p, o, rfl, hp, c0, c1, c2⟩ := ha.below hw k hlt
      obtain ⟨q, r, rfl, hq, d0, d1, d2⟩ := hb.below hw k hlt
      go_wp2_with fail
      go_quiet (fail)
      go_wp2_with fail
      go_roundw
      case rel => exact ⟨k + 1, by go_num, by omega, belowDrewN' hw⟩
      case measure => simp [intOf]; omega
    · go_wp2_with fail
      go_ret
      exact ⟨rfl, hw⟩
end Go.Proofs
