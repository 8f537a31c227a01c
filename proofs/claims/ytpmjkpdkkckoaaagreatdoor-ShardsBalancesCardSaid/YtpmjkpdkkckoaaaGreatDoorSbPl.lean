/- ShardsBalances: closed facts of its card, each by itself. No condition. -/
import Derived.Test.YtpmjkpdkkckoaaaGreatDoorSbNames
import Derived.Test.YtpmjkpdkkckoaaaGreatDoorCards
import Derived.Test.YtpmjkpdkkckoaaaGreatDoorChecked
import Derived.SevenTiedAt
import Derived.KernelRfl
import Derived.Test.YtpmjkpdkkckoaaaGreatDoorSbFa
namespace Go.Proofs.YtpmjkpdkkckoaaaGreatDoor.shardsBalances
open Go.ChangeShapes Go.WideShapes

/-- No parameter wants a stand-in. -/
theorem plain (f : FuncId) (fn : Func) (hf : Tryz.pinned.checked.prog.funcNamed "dumbwaiter/dumblaw2.ShardsBalances" = some f) (hfn : Tryz.pinned.checked.prog.funcs[f]? = some fn) :
    true = Tryz.pinned.checked.prog.looks [] ∧ ∀ (j : Nat) t, fn.params[j]? = some t → Tryz.pinned.checked.prog.wantsStandIn t = false := by
  obtain rfl : f = 3 := Option.some.inj ((show Tryz.prog.funcNamed "dumbwaiter/dumblaw2.ShardsBalances" = some 3 from Big.law_named).symm.trans hf) |>.symm
  obtain rfl : fn = Tryz.f3 := (Option.some.inj (Tryz.func3.symm.trans hfn)).symm
  refine ⟨by kernel_rfl, fun j t ht => ?_⟩
  rw [Tryz.params3] at ht
  have hm : t ∈ [22] := by simpa using Array.mem_of_getElem? ht
  have hall : ([22].all fun u => !Tryz.prog.wantsStandIn u) = true := by kernel_rfl
  exact (show Tryz.prog.wantsStandIn t = false by simpa using List.all_eq_true.1 hall t hm)

theorem c_wf : Rows.shardsBalancesRow.wfByText (OpenSpec.ofChange Rows.shardsBalancesSpec) = true := by kernel_rfl

theorem c_main : Tryz.pinned.checked.prog.mainIs = some (true, "4990d6e2619befb26289825abcd59d155caa57645f8245034c7503fb223eca5b".toList) := by kernel_rfl

end Go.Proofs.YtpmjkpdkkckoaaaGreatDoor.shardsBalances

namespace Go.Proofs.YtpmjkpdkkckoaaaGreatDoor.shardsBalances
open Go.ChangeShapes Go.WideShapes

theorem none_goes : Tryz.prog.funcs.any Func.goes = false := by
  rw [← Array.any_toList]
  exact not_any _ _ Big.goe_all

theorem func_named : Tryz.prog.funcNamed Rows.shardsBalancesRow.func = some 3 := Big.law_named

theorem goes_at (g : Nat) : (Tryz.prog.funcs[g]?).any Func.goes = false := by
  cases h : Tryz.prog.funcs[g]? with
  | none => rfl
  | some fn =>
    have hm : fn ∈ Tryz.prog.funcs.toList := Array.mem_toList_iff.2 (Array.mem_of_getElem? h)
    have := List.all_eq_true.1 Big.goe_all fn hm
    show Func.goes fn = false
    simpa using this

theorem goes_not : Tryz.prog.goes 3 = false := by
  unfold Program.goes
  rw [none_goes, Bool.and_false, Bool.or_false, List.any_eq_false]
  intro g _
  rw [goes_at g]
  exact Bool.false_ne_true

theorem any_three (p : FuncId → Bool) : (some 3 : Option FuncId).any p = p 3 := rfl

theorem from_not : Tryz.prog.goesFrom Rows.shardsBalancesRow.func = false := by
  unfold Program.goesFrom
  rw [func_named, any_three, goes_not]

theorem at_entering (P : Program) (s : String) : P.goesAt .entering s = (P.goesFrom s || false) := rfl

theorem at_not : Tryz.prog.goesAt .entering Rows.shardsBalancesRow.func = false := by rw [at_entering, from_not, Bool.or_false]

theorem by_at (P : Program) (c : OpenClaim) (s : Start) (h : c.start = s) : c.goesBy P = P.goesAt s c.func := by
  subst h
  rfl

set_option maxRecDepth 100000 in
theorem c_goes : false = Rows.shardsBalancesRow.goesBy Tryz.pinned.checked.prog :=
  ((by_at Tryz.prog Rows.shardsBalancesRow .entering rfl).trans at_not).symm

end Go.Proofs.YtpmjkpdkkckoaaaGreatDoor.shardsBalances
