/- ScalarLimits: ExprRead of one text of too many levels: its contract. The condition: the library's table of white space. -/
import Derived.Test.YtkpligcifakmjaaGreatDoorSlRead
namespace Go.Ke
open Go.RowKit (Below)
open Go.Proofs

theorem deepTold_is {r : Option (Value × St)} (h : deepTold r = true) : ∃ σ, r = some (.tuple #[noExpr, .int .i64 2], σ) := by
  unfold deepTold at h
  split at h
  · rename_i cs σ
    split at h
    · rename_i a n he
      rw [Bool.and_eq_true] at h
      have h1 := veq_eq h.1
      have h2 : n = 2 := by simpa using h.2
      subst h1 h2
      obtain ⟨l⟩ := cs
      simp only at he
      subst he
      exact ⟨σ, rfl⟩
    · cases h
  · cases h

set_option maxRecDepth 100000 in
theorem Tryz.readDeep (w : World) (hJ : spaceTab w.heap.size w) :
    Calls Tryz.prog 45 #[.string deepText] w fun e w' => e = .returned (.tuple #[noExpr, .int .i64 2]) ∧ Below w.heap.size w w' := by
  obtain ⟨σ, hr⟩ := deepTold_is deep_run
  obtain ⟨_, h1⟩ := call_sound (spaceTab_stable w.heap.size) named_tryz noDefer (code_ok (spaceTab_stable w.heap.size) tryz_mixed named_tryz noDefer (sumX_ok w.heap.size) _) hr rfl (empty_rel w) hJ (.cons (.str deepText) .nil)
  refine Calls.mono h1 fun e w' he => ?_
  obtain ⟨v', ρ', rfl, _, g2, _, g4⟩ := he
  refine ⟨?_, g4⟩
  cases g2 with
  | tuple xs ys hs hc =>
    obtain ⟨l⟩ := ys
    match l, hs, hc with
    | [x, y], _, hc =>
      have h0 := hc 0 (by decide) (by simp)
      have h1 := hc 1 (by decide) (by simp)
      have e0 := plainV_eq (v := noExpr) h0 rfl
      have e1 := plainV_eq (v := .int .i64 2) h1 rfl
      have e0' : x = noExpr := e0
      have e1' : y = .int .i64 2 := e1
      rw [e0', e1']
end Go.Ke
