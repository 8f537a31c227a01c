/- ValueKept: closed facts of its card, each by itself. No condition. -/
import Derived.Test.YtmnlcldhhlkpeaaGreatDoorCards
import Derived.Test.YtmnlcldhhlkpeaaGreatDoorChecked
import Derived.SevenTiedAt
import Derived.KernelRfl
namespace Go.Proofs.YtmnlcldhhlkpeaaGreatDoor.valueKept
open Go.ChangeShapes Go.WideShapes

/-- No parameter wants a stand-in. -/
theorem plain (f : FuncId) (fn : Func) (hf : Tryz.pinned.checked.prog.funcNamed "dumbwaiter/dumbkeep1.ValueKept" = some f) (hfn : Tryz.pinned.checked.prog.funcs[f]? = some fn) :
    true = Tryz.pinned.checked.prog.looks [] ∧ ∀ (j : Nat) t, fn.params[j]? = some t → Tryz.pinned.checked.prog.wantsStandIn t = false := by
  obtain rfl : f = 5 := Option.some.inj ((show Tryz.prog.funcNamed "dumbwaiter/dumbkeep1.ValueKept" = some 5 by kernel_rfl).symm.trans hf) |>.symm
  obtain rfl : fn = Tryz.f5 := (Option.some.inj (Tryz.func5.symm.trans hfn)).symm
  refine ⟨by kernel_rfl, fun j t ht => ?_⟩
  rw [Tryz.params5] at ht
  have hm : t ∈ [28] := by simpa using Array.mem_of_getElem? ht
  have hall : ([28].all fun u => !Tryz.prog.wantsStandIn u) = true := by kernel_rfl
  exact (show Tryz.prog.wantsStandIn t = false by simpa using List.all_eq_true.1 hall t hm)

theorem c_wf : Rows.valueKeptRow.wfByText (OpenSpec.ofChange Rows.valueKeptSpec) = true := by kernel_rfl

theorem c_main : Tryz.pinned.checked.prog.mainIs = some (true, "2bff227f066647d1c00f374faa048ff5acb712ed82ee23334c406b2ca039ae64".toList) := by kernel_rfl

end Go.Proofs.YtmnlcldhhlkpeaaGreatDoor.valueKept
