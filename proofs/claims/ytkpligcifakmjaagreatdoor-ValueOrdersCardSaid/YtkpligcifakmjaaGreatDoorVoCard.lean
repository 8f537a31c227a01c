/- ValueOrders, the card: value.Compare and value.CompareLists are as specified for all values. No condition but that the listed variables of Go's library lie as the program's text lays them. -/
import Derived.Test.YtkpligcifakmjaaGreatDoorRowAt
import Derived.Lib.SmallJoins
import Derived.SevenTiedAt
namespace Go.Proofs.YtkpligcifakmjaaGreatDoor.valueOrders
open Go.ChangeShapes Go.WideShapes Go.ChangeAt Go.RowKit Go.Joins valueChecks

set_option maxRecDepth 100000 in
theorem lifted (os : Os) (started : os.Started) (H : Type) (enc : TypeId × Value → H) :
    ReturnsInHanded {} Tryz.checked os 5 .any (fun w args => (Rows.valueOrdersSpec.pre enc Tryz.prog Tryz.f5 Rows.valueOrdersRow.domain false w args ∧ laidMetH Tryz.prog Rows.valueOrdersRow.laid w) ∧ sizedMet enc Tryz.prog Tryz.f5 (OpenSpec.ofChange Rows.valueOrdersSpec) false w args)
      (Rows.valueOrdersSpec.post enc Tryz.prog Tryz.f5 false true false false) := by
  refine returnsInHanded_of_change_and (C := Tryz.checked) (X := fun w _ => laidMetH Tryz.prog Rows.valueOrdersRow.laid w) (fun _ _ _ hh h => h.of_heap hh) own started (by kernel_rfl) Tryz.func5
    (ChangeSpec.witness_shaped (enc := enc) (C := Tryz.checked) (os := os) (X := fun w _ => laidMetH Tryz.prog Rows.valueOrdersRow.laid w) false (World.laidAll Tryz.prog os Rows.valueOrdersRow.laid) #[.slice none 0 0, .slice none 0 0] 8 (World.laidAll_os _ _ _)
      (World.shaped_of_ZipB (by kernel_rfl) (by kernel_rfl)) (by kernel_rfl) (by kernel_rfl) (by kernel_rfl)
      (by rw [MakeChecks.laidMetH_plain _ _ _ (by kernel_rfl)]; exact laidMet_laidAll _ (by kernel_rfl) (by kernel_rfl))) ?_
  intro W base args ds gs before hval0 hW hc _ hL _
  have hval : ∀ (j : Nat) t v, Tryz.f5.params[j]? = some t → args[j]? = some v → Value.okWide Tryz.prog W .any base t v := hval0
  have hW' := hW
  obtain ⟨p, q, hA0, hV, rfl, _, _⟩ := hW
  have hA : DataW.TrodAll enc Tryz.prog W 0 (fun _ => true) true Tryz.f5.params.toList args.toList ds p := hA0
  rw [Tryz.params5] at hA hval
  obtain ⟨v0, v1, d0, d1, p0, p1, rfl, rfl, rfl, h0, h1⟩ := trodAll_two hA
  obtain ⟨rfl, rfl⟩ := trodVars_none hV
  obtain ⟨ad, a, ca, rfl, ha, la⟩ := rowAt_of (hval 0 39 v0 rfl rfl) h0
  obtain ⟨bd, b, cb, rfl, hb, lb⟩ := rowAt_of (hval 1 39 v1 rfl rfl) h1
  rw [MakeChecks.laidMetH_plain _ _ _ (by kernel_rfl)] at hL
  have htab := space_of hL (List.mem_of_getElem? (i := 7) (by kernel_rfl))
  refine (Tryz.ordersLaw a b ad bd ca cb W ha hb la lb htab).mono fun e W' ⟨he, hbw⟩ => ?_
  subst he
  refine ⟨_, rfl, post_of_below (pa := p0 ++ p1) (pv := []) hW' hbw (fun _ _ _ => trodAll_mk1 (shut_bool Tryz.underlying4 _)) ?_ rfl⟩
  exact trodAll_mk2 (Below.trod laidOut (by kernel_rfl) (of_decide_eq_true (by kernel_rfl)) h0 hbw (fun x hx => hW'.lt x (by simp [hx]))) (Below.trod laidOut (by kernel_rfl) (of_decide_eq_true (by kernel_rfl)) h1 hbw (fun x hx => hW'.lt x (by simp [hx])))

end Go.Proofs.YtkpligcifakmjaaGreatDoor.valueOrders
