/- Of the law's package: what 'caches' answers, in every world. No condition. -/
import Derived.Test.YtfkpcaaoodidhaaKeP
import Derived.Test.YtfkpcaaoodidhaaShelf
import Derived.Test.YtfkpcaaoodidhaaChecked
namespace Go.Ke
open Go.RowKit (Below)
open Go.Proofs

def namedB (p : Program) : Bool := p.funcs.toList.all fun fn => fn.body.isNone || fn.name != "runtime.NumGoroutine"

theorem named_of {p : Program} (h : namedB p = true) : Named p := by
  intro f fn c hf hb
  have := List.all_eq_true.mp h fn (by rw [Array.mem_toList_iff]; exact Array.mem_of_getElem? hf)
  rw [hb] at this
  simpa using this

theorem named_try : Named Try.prog := named_of (by kernel_rfl)

noncomputable def noSum : Summ := fun _ _ _ => none

theorem noSum_ok (N : Nat) : SummOK Try.prog N (fun _ => True) noSum := by
  intro f args σ v σ' h
  cases h

end Go.Ke
namespace Go.Proofs
open Go.Ke Go.RowKit

set_option maxRecDepth 1000000 in
theorem caches_gate : gate Try.prog noSum St.empty 13 = true := by kernel_rfl

theorem noSum_caches : noSum 13 [] St.empty = none := by kernel_rfl

theorem try_mixed : Try.prog.follows .mixedOrders = true := Checked.mixed Try.checked

set_option maxRecDepth 100000 in
theorem Try.caches_calls (w : World) : Calls Try.prog 13 #[] w fun e w' => e = .returned (.bool true) ∧ Below w.heap.size w w' :=
  gate_sound (J := fun _ => True) (fun _ _ _ _ => trivial) try_mixed named_try (noSum_ok w.heap.size) noSum_caches caches_gate (empty_rel w) trivial

end Go.Proofs
