/- Calls upon values without addresses, by the abstract run from an empty heap. The condition: the library's table of white space. -/
import Derived.Test.YtkpligcifakmjaaGreatDoorGate
namespace Go.Ke
open Go.RowKit (Below)
open Go.Proofs

/-- What a call comes to from an empty heap: a value without addresses. -/
noncomputable def runC (f : FuncId) (args : List Value) : Option Value := match callRun Tryz.prog sumX (fun _ _ => false) (codeRun Tryz.prog sumX (fun _ _ => false) 1000000000000) f args St.empty with
  | some (v, _) => match plainV v with
    | true => some v
    | false => none
  | none => none

theorem plain_args (ρ : Loc) : ∀ {l : List Value}, l.all (fun v => plainV v) = true → LRel ρ l l := by
  intro l
  induction l with
  | nil => intro _; exact .nil
  | cons v l ih =>
    intro h
    rw [List.all_cons, Bool.and_eq_true] at h
    exact .cons (plainV_rel ρ h.1) (ih h.2)

set_option maxRecDepth 100000 in
theorem pure_call {f : FuncId} {args : List Value} {v : Value} (hx : sumX f args St.empty = none) (hp : args.all (fun v => plainV v) = true) (h : runC f args = some v) (w : World) (hJ : spaceTab w.heap.size w) :
    Calls Tryz.prog f args.toArray w fun e w' => e = .returned v ∧ Below w.heap.size w w' := by
  unfold runC at h
  split at h
  · rename_i u σ' hr
    split at h
    · rename_i hpl
      cases h
      obtain ⟨_, h1⟩ := call_sound (spaceTab_stable w.heap.size) named_tryz noDefer (code_ok (spaceTab_stable w.heap.size) tryz_mixed named_tryz noDefer (sumX_ok w.heap.size) _) hr hx (empty_rel w) hJ (plain_args _ hp)
      refine Calls.mono h1 fun e w' he => ?_
      obtain ⟨v', ρ', rfl, _, g2, _, g4⟩ := he
      cases plainV_eq g2 hpl
      exact ⟨rfl, g4⟩
    · cases h
  · cases h
end Go.Ke
