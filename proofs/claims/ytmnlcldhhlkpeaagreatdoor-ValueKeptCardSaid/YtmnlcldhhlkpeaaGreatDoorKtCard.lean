/- ValueKept, the card: keys are ordered as lists are and read back, and so do texts of right values. No condition but that the listed variables of Go's library lie as the program's text lays them. -/
import Derived.Test.YtmnlcldhhlkpeaaGreatDoorKl
import Derived.Test.YtmnlcldhhlkpeaaGreatDoorKp
import Derived.Test.YtmnlcldhhlkpeaaGreatDoorGate
import Derived.Test.YtmnlcldhhlkpeaaGreatDoorBkHelp
namespace Go.Proofs.YtmnlcldhhlkpeaaGreatDoor.valueKept
open Go.ChangeShapes Go.WideShapes Go.ChangeAt Go.RowKit Go.Joins backs

set_option maxRecDepth 100000 in
theorem lifted (os : Os) (started : os.Started) (H : Type) (enc : TypeId × Value → H) :
    ReturnsInHanded {} Tryz.checked os 5 .any (fun w args => (Rows.valueKeptSpec.pre enc Tryz.prog Tryz.f5 Rows.valueKeptRow.domain false w args ∧ laidMetH Tryz.prog Rows.valueKeptRow.laid w) ∧ sizedMet enc Tryz.prog Tryz.f5 (OpenSpec.ofChange Rows.valueKeptSpec) false w args)
      (Rows.valueKeptSpec.post enc Tryz.prog Tryz.f5 false true false false) := by
  refine handed_shaped_and (C := Tryz.checked) (X := fun w _ => laidMetH Tryz.prog Rows.valueKeptRow.laid w) (fun _ _ _ hh h => h.of_heap hh) own started (by kernel_rfl) Tryz.func5
    (ChangeSpec.witness_shaped (enc := enc) (C := Tryz.checked) (os := os) (X := fun w _ => laidMetH Tryz.prog Rows.valueKeptRow.laid w) false (World.laidAll Tryz.prog os Rows.valueKeptRow.laid) #[.slice none 0 0] 8 (World.laidAll_os _ _ _)
      (World.shaped_of_ZipB (by kernel_rfl) (by kernel_rfl)) (by kernel_rfl) (by kernel_rfl) (by kernel_rfl)
      (by rw [MakeChecks.laidMetH_plain _ _ _ (by kernel_rfl)]; exact laidMet_laidAll _ (by kernel_rfl) (by kernel_rfl))) ?_
  intro W base args ds gs before hval0 hW hsh hL
  have hval : ∀ (j : Nat) t v, Tryz.f5.params[j]? = some t → args[j]? = some v → Value.okWide Tryz.prog W .any base t v := hval0
  have hW' := hW
  obtain ⟨p, q, hA0, hV, rfl, _, _⟩ := hW
  have hA : DataW.TrodAll enc Tryz.prog W 0 (fun _ => true) true Tryz.f5.params.toList args.toList ds p := hA0
  rw [Tryz.params5] at hA hval
  obtain ⟨v0, d0, rfl, rfl, h0⟩ := trodAll_one hA
  obtain ⟨rfl, rfl⟩ := trodVars_none hV
  obtain ⟨ad, zs, cap, rfl, hz, hl⟩ := intsAt_of (hval 0 28 v0 rfl rfl) h0
  rw [MakeChecks.laidMetH_plain _ _ _ (by kernel_rfl)] at hL
  have htab := space_of hL (List.mem_of_getElem? (i := 7) (by kernel_rfl))
  have hpow := pow_of hL (List.mem_of_getElem? (i := 0) (by kernel_rfl))
  have hlit := lit_of hL hsh (List.mem_of_getElem? (i := 0) (by kernel_rfl)) (List.mem_of_getElem? (i := 5) (by kernel_rfl)) (List.mem_of_getElem? (i := 6) (by kernel_rfl))
  refine (Tryz.keptLaw zs ad cap W hz hl hlit (fun W1 hb1 => Tryz.stands_calls W1 W htab hpow hb1) unk_keys keys_cmp (fun x h => (cand_show x h).1) (fun x h => (cand_show x h).2)).mono fun e W' ⟨he, hbw⟩ => ?_
  subst he
  refine ⟨_, rfl, post_of_below (pa := p) (pv := []) hW' hbw (fun _ _ _ => trodAll_mk1 (shut_bool Tryz.underlying4 _)) ?_ rfl⟩
  exact trodAll_mk1 (Below.trod laidOut (by kernel_rfl) (of_decide_eq_true (by kernel_rfl)) h0 hbw (fun x hx => hW'.lt x (by simp [hx])))

end Go.Proofs.YtmnlcldhhlkpeaaGreatDoor.valueKept
