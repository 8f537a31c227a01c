/- ScalarLimits, the card: the limits of parts and levels are as specified. No condition but that the listed variables of Go's library lie as the program's text lays them. -/
import Derived.Test.YtkpligcifakmjaaGreatDoorLimL
import Derived.Test.YtkpligcifakmjaaGreatDoorVcCard
import Derived.Deep.Slices
import Derived.Deep.Fields
import Derived.Lib.SmallJoins
import Derived.ChangeSlices
import Derived.SevenTiedAt
namespace Go.Proofs
open Go.ChangeShapes Go.WideShapes Go.Deep Go.RowKit

theorem cell_lt {W : World} {a : Addr} {v : Value} (h : W.cell? a = some v) : a.block < W.heap.size ∧ a.spot = none := by
  unfold World.cell? at h
  split at h
  · rename_i hc
    have := (Array.getElem?_eq_some_iff.1 hc).1
    split at h
    · cases h
    · rename_i hs
      exact ⟨this, by simpa using hs⟩
  · cases h

theorem add_none (ab ao n : Nat) : (⟨ab, ao, none⟩ : Addr).add n = ⟨ab, ao + n, none⟩ := by
  unfold Addr.add
  split
  · rename_i h; subst h; rfl
  · rfl

set_option maxRecDepth 100000 in
theorem intsAt_of {H : Type} {enc : TypeId × Value → H} {W : World} {r : Reach} {b0 : Nat} {held : Bool} {v : Value} {d : DataW H} {p : List MemPlace} (hv : Value.okWide Tryz.prog W r b0 28 v) (h : DataW.Trod enc Tryz.prog W 0 (fun _ => true) held 28 v d p) :
    ∃ ad, ∃ l : List Int, ∃ cap, v = .slice ad l.length cap ∧ IntsAt W W.heap.size ad l ∧ l.length ≤ 9223372036854775807 := by
  obtain ⟨a, len, cap, rfl⟩ := okWide_slice Tryz.underlying28 hv
  obtain ⟨fuel, hf⟩ := h
  rcases open_ints Tryz.underlying28 Tryz.underlying3 (by kernel_rfl) hf with ⟨h0, _⟩ | ⟨a', len', cap', zs, hcs, hb, hl, hm, hzl, hx, hc, hw⟩
  · simp only [Value.cells, List.cons.injEq, Value.slice.injEq, and_true] at h0
    obtain ⟨rfl, rfl, rfl⟩ := h0
    exact ⟨none, [], 0, rfl, fun i hi => by simp at hi, by simp⟩
  · simp only [Value.cells, List.cons.injEq, Value.slice.injEq, and_true] at hcs
    obtain ⟨rfl, rfl, rfl⟩ := hcs
    simp only [if_true] at hzl
    have hln : (zs.take len).length = len := by simp; omega
    refine ⟨some a', zs.take len, cap, by rw [hln], ?_, by rw [hln]; unfold maxLen at hm; omega⟩
    intro i hi
    rw [hln] at hi
    have z0 := hc 0 (by omega)
    have ci := hc i (by omega)
    have hwi := hw zs[i] (List.getElem_mem (by omega))
    obtain ⟨ab, ao, asp⟩ := a'
    have hs := cell_lt z0
    have hs2 : asp = none := hs.2
    subst hs2
    rw [add_none] at ci
    have e : zs.getD i 0 = zs[i] := by simp [List.getD, show i < zs.length by omega]
    rw [e] at ci
    refine ⟨ab, ao, rfl, hs.1, ?_, ?_⟩
    · simpa using ci
    · simp only [List.getElem_take]
      unfold Lit.wf at hwi
      simp only [Bool.and_eq_true, decide_eq_true_eq] at hwi
      have e1 : IntKind.i64.min = -9223372036854775808 := by decide
      have e2 : IntKind.i64.max = 9223372036854775807 := by decide
      rw [e1, e2] at hwi
      exact hwi

end Go.Proofs
namespace Go.Proofs.YtkpligcifakmjaaGreatDoor.scalarLimits
open Go.ChangeShapes Go.WideShapes Go.ChangeAt Go.RowKit Go.Joins valueChecks

set_option maxRecDepth 100000 in
theorem lifted (os : Os) (started : os.Started) (H : Type) (enc : TypeId × Value → H) :
    ReturnsInHanded {} Tryz.checked os 8 .any (fun w args => (Rows.scalarLimitsSpec.pre enc Tryz.prog Tryz.f8 Rows.scalarLimitsRow.domain false w args ∧ laidMetH Tryz.prog Rows.scalarLimitsRow.laid w) ∧ sizedMet enc Tryz.prog Tryz.f8 (OpenSpec.ofChange Rows.scalarLimitsSpec) false w args)
      (Rows.scalarLimitsSpec.post enc Tryz.prog Tryz.f8 false true false false) := by
  refine returnsInHanded_of_change_and (C := Tryz.checked) (X := fun w _ => laidMetH Tryz.prog Rows.scalarLimitsRow.laid w) (fun _ _ _ hh h => h.of_heap hh) own started (by kernel_rfl) Tryz.func8
    (ChangeSpec.witness_shaped (enc := enc) (C := Tryz.checked) (os := os) (X := fun w _ => laidMetH Tryz.prog Rows.scalarLimitsRow.laid w) false (World.laidAll Tryz.prog os Rows.scalarLimitsRow.laid) #[.slice none 0 0] 8 (World.laidAll_os _ _ _)
      (World.shaped_of_ZipB (by kernel_rfl) (by kernel_rfl)) (by kernel_rfl) (by kernel_rfl) (by kernel_rfl)
      (by rw [MakeChecks.laidMetH_plain _ _ _ (by kernel_rfl)]; exact laidMet_laidAll _ (by kernel_rfl) (by kernel_rfl))) ?_
  intro W base args ds gs before hval0 hW hc _ hL _
  have hval : ∀ (j : Nat) t v, Tryz.f8.params[j]? = some t → args[j]? = some v → Value.okWide Tryz.prog W .any base t v := hval0
  have hW' := hW
  obtain ⟨p, q, hA0, hV, rfl, _, _⟩ := hW
  have hA : DataW.TrodAll enc Tryz.prog W 0 (fun _ => true) true Tryz.f8.params.toList args.toList ds p := hA0
  rw [Tryz.params8] at hA hval
  obtain ⟨v0, d0, rfl, rfl, h0⟩ := trodAll_one hA
  obtain ⟨rfl, rfl⟩ := trodVars_none hV
  obtain ⟨ad, zs, cap, rfl, hz, hl⟩ := intsAt_of (hval 0 28 v0 rfl rfl) h0
  rw [MakeChecks.laidMetH_plain _ _ _ (by kernel_rfl)] at hL
  have htab := space_of hL (List.mem_of_getElem? (i := 7) (by kernel_rfl))
  refine (Tryz.limitsLaw zs ad cap W hz hl htab).mono fun e W' ⟨he, hbw⟩ => ?_
  subst he
  refine ⟨_, rfl, post_of_below (pa := p) (pv := []) hW' hbw (fun _ _ _ => trodAll_mk1 (shut_bool Tryz.underlying4 _)) ?_ rfl⟩
  exact trodAll_mk1 (Below.trod laidOut (by kernel_rfl) (of_decide_eq_true (by kernel_rfl)) h0 hbw (fun x hx => hW'.lt x (by simp [hx])))

end Go.Proofs.YtkpligcifakmjaaGreatDoor.scalarLimits
