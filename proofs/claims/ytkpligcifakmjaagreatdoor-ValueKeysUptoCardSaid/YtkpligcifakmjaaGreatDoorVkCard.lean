/- ValueKeys, the second form's card: value.Key, FromKey and Hash are as specified for all values and bytes. The condition: what is read is of bulk at most 1048576; and the listed variables of Go's library lie as the program's text lays them. -/
import Derived.Test.YtkpligcifakmjaaGreatDoorKlaw
import Derived.Test.YtkpligcifakmjaaGreatDoorRowAt
import Derived.Lib.SmallJoins
import Derived.ChangeSlices
import Derived.SevenTiedAt
import Derived.Deep.DeepHandedRow
import Derived.JoinedCond
namespace Go.Proofs.YtkpligcifakmjaaGreatDoor.bulks

theorem one_le {H : Type} (d : DataW H) : 1 ≤ Rows.uptoBulk d := by
  cases d with
  | lit l => cases l <;> simp [Rows.uptoBulk]
  | _ => simp [Rows.uptoBulk]

theorem length_le {H : Type} (l : List (DataW H)) : l.length ≤ Rows.uptoBulkAll l := by
  induction l with
  | nil => simp [Rows.uptoBulkAll]
  | cons x r ih => have := one_le x; simp only [Rows.uptoBulkAll, List.length_cons]; omega

theorem slice_le {H : Type} (elems spare : List (DataW H)) : elems.length + spare.length + 1 ≤ Rows.uptoBulk (.slice elems spare) := by
  have h1 := length_le elems
  have h2 := length_le spare
  simp only [Rows.uptoBulk]
  omega

end Go.Proofs.YtkpligcifakmjaaGreatDoor.bulks
namespace Go.Proofs.YtkpligcifakmjaaGreatDoor.valueKeys
open Go.ChangeShapes Go.WideShapes Go.ChangeAt Go.RowKit Go.Joins Go.Deep valueChecks

set_option maxRecDepth 100000 in
theorem rowAt_upto {H : Type} {enc : TypeId × Value → H} {W : World} {r : Reach} {b0 : Nat} {held : Bool} {v : Value} {d : DataW H} {p : List MemPlace} (hv : Value.okWide Tryz.prog W r b0 39 v) (h : DataW.Trod enc Tryz.prog W 0 (fun _ => true) held 39 v d p) :
    ∃ ad, ∃ l : List Val, ∃ cap, v = .slice ad l.length cap ∧ RowAt W W.heap.size ad l ∧ l.length ≤ Rows.uptoBulk d := by
  obtain ⟨a, len, cap, rfl⟩ := okWide_slice Tryz.underlying39 hv
  obtain ⟨fuel, hf⟩ := h
  rcases open_slice Tryz.underlying39 hf with ⟨h0, _⟩ | ⟨a', len', cap', m, n, D, Pl, hcs, hb, hl, hm, hmm, hx, hi⟩
  · simp only [Value.cells, List.cons.injEq, Value.slice.injEq, and_true] at h0
    obtain ⟨rfl, rfl, rfl⟩ := h0
    exact ⟨none, [], 0, rfl, fun i hi => by simp at hi, by simp⟩
  · simp only [Value.cells, List.cons.injEq, Value.slice.injEq, and_true] at hcs
    obtain ⟨rfl, rfl, rfl⟩ := hcs
    simp only [if_true] at hmm
    have each : ∀ i, i < len → ∃ x : Val, W.cell? (a'.add (i * 3)) = some (.int .i64 x.k) ∧ W.cell? (a'.add (i * 3 + 1)) = some (.int .i64 x.n) ∧ W.cell? (a'.add (i * 3 + 2)) = some (.string x.s) ∧ x.s.size ≤ 9223372036854775807 := by
      intro i hi'
      obtain ⟨cs', hc, ht'⟩ := hi i (by omega)
      rw [show Tryz.prog.cellsOf 23 = 3 by kernel_rfl] at hc
      obtain ⟨ys, n', hn', hy, hlen, hyl, hg⟩ := DataW.trod_struct Tryz.underlying23 ht'
      obtain ⟨_, hcl, hat⟩ := World.cells?_some hc
      match cs', hcl with
      | [v0, v1, v2], _ =>
        match ys, hyl with
        | [y0, y1, y2], _ =>
          have g0 : DataW.trod enc Tryz.prog W 0 (fun _ => true) held n' 3 (List.take (Tryz.prog.cellsOf 3) [v0, v1, v2]) = some y0 := hg 0 _ rfl
          have g1 : DataW.trod enc Tryz.prog W 0 (fun _ => true) held n' 3 (List.take (Tryz.prog.cellsOf 3) [v1, v2]) = some y1 := hg 1 _ rfl
          have g2 : DataW.trod enc Tryz.prog W 0 (fun _ => true) held n' 9 (List.take (Tryz.prog.cellsOf 9) [v2]) = some y2 := hg 2 _ rfl
          rw [show Tryz.prog.cellsOf 3 = 1 by kernel_rfl] at g0 g1
          rw [show Tryz.prog.cellsOf 9 = 1 by kernel_rfl] at g2
          obtain ⟨k, e0, _, _⟩ := DataW.trod_int Tryz.underlying3 g0
          obtain ⟨z, e1, _, _⟩ := DataW.trod_int Tryz.underlying3 g1
          obtain ⟨s, e2, _, ws⟩ := DataW.trod_string Tryz.underlying9 g2
          cases e0
          cases e1
          cases e2
          have a0 := hat 0 (by omega)
          have a1 := hat 1 (by omega)
          have a2 := hat 2 (by omega)
          rw [Go.Deep.add_add] at a0 a1 a2
          exact ⟨⟨k, z, s⟩, a0, a1, a2, by unfold maxLen at ws; omega⟩
    obtain ⟨X, hX⟩ := choose_lt each
    refine ⟨some a', (List.range len).map X, cap, by simp, ?_, ?_⟩
    rotate_left
    · simp only [Prod.mk.injEq] at hx
      rw [hx.1]
      have := bulks.slice_le ((List.range len).map D) ((List.range (m - len)).map fun j => D (len + j))
      simp only [List.length_map, List.length_range] at this ⊢
      omega
    intro i hi
    simp only [List.length_map, List.length_range] at hi
    obtain ⟨c0, c1, c2, c3⟩ := hX i hi
    obtain ⟨z0, _⟩ := hX 0 (by omega)
    obtain ⟨ab, ao, asp⟩ := a'
    have hs := cell_lt z0
    have hs2 : asp = none := hs.2
    subst hs2
    rw [add_none] at c0 c1 c2
    refine ⟨ab, ao, rfl, hs.1, ?_, ?_, ?_, ?_⟩ <;> simp only [List.getElem_map, List.getElem_range] <;> assumption

set_option maxRecDepth 100000 in
theorem bytesAt_upto {H : Type} {enc : TypeId × Value → H} {W : World} {r : Reach} {b0 : Nat} {held : Bool} {v : Value} {d : DataW H} {p : List MemPlace} (hv : Value.okWide Tryz.prog W r b0 43 v) (h : DataW.Trod enc Tryz.prog W 0 (fun _ => true) held 43 v d p) :
    ∃ ad, ∃ K : List UInt8, ∃ cap, v = .slice ad K.length cap ∧ BytesAt W W.heap.size ad K ∧ K.length ≤ cap ∧ K.length ≤ Rows.uptoBulk d := by
  obtain ⟨a, len, cap, rfl⟩ := okWide_slice Tryz.underlying43 hv
  obtain ⟨fuel, hf⟩ := h
  rcases open_ints Tryz.underlying43 Tryz.underlying5 (by kernel_rfl) hf with ⟨h0, _⟩ | ⟨a', len', cap', zs, hcs, hb, hl, hm, hzl, hx, hc, hw⟩
  · simp only [Value.cells, List.cons.injEq, Value.slice.injEq, and_true] at h0
    obtain ⟨rfl, rfl, rfl⟩ := h0
    exact ⟨none, [], 0, rfl, fun i hi => by simp at hi, by simp, by simp⟩
  · simp only [Value.cells, List.cons.injEq, Value.slice.injEq, and_true] at hcs
    obtain ⟨rfl, rfl, rfl⟩ := hcs
    simp only [if_true] at hzl
    have hln : ((zs.take len).map fun z => UInt8.ofNat z.toNat).length = len := by simp; omega
    refine ⟨some a', (zs.take len).map fun z => UInt8.ofNat z.toNat, cap, by rw [hln], ?_, by rw [hln]; exact hl, ?_⟩
    rotate_left
    · simp only [Prod.mk.injEq] at hx
      rw [hx.1, hln]
      have := bulks.slice_le (H := H) (lits .u8 (zs.take len)) (lits .u8 (zs.drop len))
      simp only [lits, List.length_map, List.length_take] at this
      unfold lits
      omega
    intro i hi
    rw [hln] at hi
    have z0 := hc 0 (by omega)
    have ci := hc i (by omega)
    have hwi := hw zs[i] (List.getElem_mem (by omega))
    obtain ⟨ab, ao, asp⟩ := a'
    have hs := cell_lt z0
    have hs2 : asp = none := hs.2
    subst hs2
    rw [add_none] at ci
    have e : zs.getD i 0 = zs[i] := by simp [List.getD, show i < zs.length by omega]
    rw [e] at ci
    refine ⟨ab, ao, rfl, hs.1, ?_⟩
    rw [ci]
    simp only [List.getElem_map, List.getElem_take]
    unfold Lit.wf at hwi
    simp only [Bool.and_eq_true, decide_eq_true_eq] at hwi
    have e1 : IntKind.u8.min = 0 := by decide
    have e2 : IntKind.u8.max = 255 := by decide
    rw [e1, e2] at hwi
    congr 2
    rw [UInt8.toNat_ofNat']
    omega

set_option maxRecDepth 100000 in
theorem lifted (os : Os) (started : os.Started) (H : Type) (enc : TypeId × Value → H) (F : Stop.Interp) :
    ReturnsInHanded {} Tryz.checked os 6 .any ((Rows.OpenSpec.upto Rows.valueKeysSpec).preRow enc Tryz.prog Tryz.f6 Rows.valueKeysUptoRow.domain false Rows.valueKeysUptoRow.laid) (((Rows.OpenSpec.upto Rows.valueKeysSpec).at F).post enc Tryz.prog Tryz.f6 false true false false) := by
  have hx : ∃ places, DataW.whole enc Tryz.prog (((World.laidAll Tryz.prog os Rows.valueKeysUptoRow.laid).forCall (fun _ _ => 0) ⟨#[], #[.slice none 0 0, .slice none 0 0], []⟩).memory) Tryz.f6.params.toList Rows.valueKeysSpec.vars false #[Value.slice none 0 0, Value.slice none 0 0].toList 8 = some ([.nil, .nil], [], places) := ⟨[], by kernel_rfl⟩
  obtain ⟨places, hx⟩ := hx
  have hok : Input.okWideB Tryz.prog ((World.laidAll Tryz.prog os Rows.valueKeysUptoRow.laid).forCall (fun _ _ => 0) ⟨#[], #[.slice none 0 0, .slice none 0 0], []⟩) 6 ⟨#[], #[.slice none 0 0, .slice none 0 0], []⟩ = true := by kernel_rfl
  refine returnsInHanded_of_row (C := Tryz.checked) (s := Rows.OpenSpec.upto Rows.valueKeysSpec) own started (by kernel_rfl) Tryz.func6
    ⟨World.laidAll Tryz.prog os Rows.valueKeysUptoRow.laid, fun _ _ => 0, ⟨#[], #[.slice none 0 0, .slice none 0 0], []⟩, World.laidAll_os _ _ _,
      World.shaped_of_ZipB (by kernel_rfl) (by kernel_rfl), (Input.okWide_of_okWideB (base := 0) hok).1, (Input.okWide_of_okWideB hok).2,
      OpenSpec.preRow_of_cond 8 hx (by kernel_rfl) (fun k hk => by cases hk; kernel_rfl) (by kernel_rfl) (by rw [MakeChecks.laidMetH_plain _ _ _ (by kernel_rfl)]; exact laidMet_laidAll _ (by kernel_rfl) (by kernel_rfl)),
      by simp only [Assume.holds]; exact ⟨by simp, by simp, fun h => by simp at h, by simp, by simp⟩⟩ ?_
  intro W base args ds gs before hval0 hW hc hcond _ hL _ _
  have hval : ∀ (j : Nat) t v, Tryz.f6.params[j]? = some t → args[j]? = some v → Value.okWide Tryz.prog W .any base t v := hval0
  have hW' := hW
  obtain ⟨p, q, hA0, hV, rfl, _, _⟩ := hW
  have hA : DataW.TrodAll enc Tryz.prog W 0 (fun _ => true) true Tryz.f6.params.toList args.toList ds p := hA0
  rw [Tryz.params6] at hA hval
  obtain ⟨v0, v1, d0, d1, p0, p1, rfl, rfl, rfl, h0, h1⟩ := trodAll_two hA
  obtain ⟨rfl, rfl⟩ := trodVars_none hV
  have hk := of_decide_eq_true (hcond _ rfl)
  simp only [List.append_nil, Rows.uptoBulkAll] at hk
  obtain ⟨ad, l, ca, rfl, hl, la⟩ := rowAt_upto (hval 0 39 v0 rfl rfl) h0
  obtain ⟨bd, K, cb, rfl, hb, hcb, lb⟩ := bytesAt_upto (hval 1 43 v1 rfl rfl) h1
  rw [MakeChecks.laidMetH_plain _ _ _ (by kernel_rfl)] at hL
  have htab := space_of hL (List.mem_of_getElem? (i := 7) (by kernel_rfl))
  refine (Tryz.keysLaw l K ad bd ca cb W hl hb (by omega) (by omega) hcb htab).mono fun e W' ⟨he, hbw⟩ => ?_
  subst he
  refine ⟨_, rfl, post_of_below (pa := p0 ++ p1) (pv := []) hW' hbw (fun _ _ _ => trodAll_mk1 (shut_bool Tryz.underlying4 _)) ?_ rfl⟩
  exact trodAll_mk2 (Below.trod laidOut (by kernel_rfl) (of_decide_eq_true (by kernel_rfl)) h0 hbw (fun x hx => hW'.lt x (by simp [hx]))) (Below.trod laidOut (by kernel_rfl) (of_decide_eq_true (by kernel_rfl)) h1 hbw (fun x hx => hW'.lt x (by simp [hx])))

end Go.Proofs.YtkpligcifakmjaaGreatDoor.valueKeys
