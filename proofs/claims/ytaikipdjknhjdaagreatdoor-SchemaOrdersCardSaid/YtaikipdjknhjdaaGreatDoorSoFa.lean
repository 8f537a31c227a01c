/- SchemaOrders: closed facts of its row and of its card, each by itself. No condition. -/
import Derived.Test.YtaikipdjknhjdaaGreatDoorCards
import Derived.Test.YtaikipdjknhjdaaGreatDoorChecked
import Derived.JoinedOf
import Derived.KernelRfl
import Derived.SevenTiedAt
namespace Go.Proofs.YtaikipdjknhjdaaGreatDoor.schemaOrders
open Go.ChangeShapes Go.WideShapes

theorem f_inPlace : (Rows.schemaOrdersRow.inPlace == Tryz.prog.inPlace 3) = true := by kernel_rfl
theorem f_recurses : (Rows.schemaOrdersRow.recurses == Tryz.prog.recurses 3) = true := by kernel_rfl
end Go.Proofs.YtaikipdjknhjdaaGreatDoor.schemaOrders

namespace Go.Proofs.YtaikipdjknhjdaaGreatDoor.schemaOrders
open Go.ChangeShapes Go.WideShapes

/-- No parameter wants a stand-in. -/
theorem plain (f : FuncId) (fn : Func) (hf : Tryz.pinned.checked.prog.funcNamed "dumbwaiter/dumblaw1.SchemaOrders" = some f) (hfn : Tryz.pinned.checked.prog.funcs[f]? = some fn) :
    true = Tryz.pinned.checked.prog.looks [] ∧ ∀ (j : Nat) t, fn.params[j]? = some t → Tryz.pinned.checked.prog.wantsStandIn t = false := by
  obtain rfl : f = 3 := Option.some.inj ((show Tryz.prog.funcNamed "dumbwaiter/dumblaw1.SchemaOrders" = some 3 by kernel_rfl).symm.trans hf) |>.symm
  obtain rfl : fn = Tryz.f3 := (Option.some.inj (Tryz.func3.symm.trans hfn)).symm
  refine ⟨by kernel_rfl, fun j t ht => ?_⟩
  rw [Tryz.params3] at ht
  have hm : t ∈ [22] := by simpa using Array.mem_of_getElem? ht
  have hall : ([22].all fun u => !Tryz.prog.wantsStandIn u) = true := by kernel_rfl
  exact (show Tryz.prog.wantsStandIn t = false by simpa using List.all_eq_true.1 hall t hm)

theorem c_wf : Rows.schemaOrdersRow.wfByText (OpenSpec.ofChange Rows.schemaOrdersSpec) = true := by kernel_rfl

theorem c_main : Tryz.pinned.checked.prog.mainIs = some (true, "504109cc33d38f5f96b6c6c95f3fa39a4685376b34f45d72c58e156c7a02b17b".toList) := by kernel_rfl

end Go.Proofs.YtaikipdjknhjdaaGreatDoor.schemaOrders
