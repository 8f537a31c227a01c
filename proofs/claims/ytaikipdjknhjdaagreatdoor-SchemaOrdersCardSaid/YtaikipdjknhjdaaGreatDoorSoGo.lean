/- SchemaOrders: a closed fact of its card: it starts no goroutine. No condition. -/
import Derived.Test.YtaikipdjknhjdaaGreatDoorSoFb
import Derived.SevenTiedAt
import Derived.KernelRfl
namespace Go.Proofs.YtaikipdjknhjdaaGreatDoor.schemaOrders
open Go.ChangeShapes Go.WideShapes

theorem none_goes : Tryz.prog.funcs.any Func.goes = false := by kernel_rfl

theorem reached_goes : (reached.any fun g => (Tryz.prog.funcs[g]?).any Func.goes) = false := by kernel_rfl

theorem func_named : Tryz.prog.funcNamed Rows.schemaOrdersRow.func = some 3 := by kernel_rfl

theorem goes_not : Tryz.prog.goes 3 = false := by
  unfold Program.goes
  rw [reached_is, reached_goes, none_goes, Bool.and_false, Bool.or_false]

theorem any_three (p : FuncId → Bool) : (some 3 : Option FuncId).any p = p 3 := rfl

theorem from_not : Tryz.prog.goesFrom Rows.schemaOrdersRow.func = false := by
  unfold Program.goesFrom
  rw [func_named, any_three, goes_not]

theorem at_entering (P : Program) (s : String) : P.goesAt .entering s = (P.goesFrom s || false) := rfl

theorem at_not : Tryz.prog.goesAt .entering Rows.schemaOrdersRow.func = false := by rw [at_entering, from_not, Bool.or_false]

theorem by_at (P : Program) (c : OpenClaim) (s : Start) (h : c.start = s) : c.goesBy P = P.goesAt s c.func := by
  subst h
  rfl

set_option maxRecDepth 100000 in
theorem c_goes : false = Rows.schemaOrdersRow.goesBy Tryz.pinned.checked.prog :=
  ((by_at Tryz.prog Rows.schemaOrdersRow .entering rfl).trans at_not).symm

end Go.Proofs.YtaikipdjknhjdaaGreatDoor.schemaOrders
