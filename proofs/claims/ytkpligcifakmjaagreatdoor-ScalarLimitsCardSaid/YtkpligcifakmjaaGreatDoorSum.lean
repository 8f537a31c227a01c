/- Of package value and of the document's package: the kind of a sum. The condition: the library's table of white space. -/
import Derived.Test.YtkpligcifakmjaaGreatDoorSkFit
import Derived.BigGuardPart
namespace Go.Proofs
open Go.RowKit Go.Ke

def sumN (op a b : Int) : Int × Bool :=
  if (op == 13) && ((b == 4) && ((a == 4) || (a == 0))) then (if (a == 0) || (b == 0) then (0, true) else (2, true))
  else if ((b != 2) && (b != 0)) || !((a == 2) || ((a == 4) || (a == 0))) then (0, false)
  else if (a == 0) || (b == 0) then (0, true) else (a, true)

set_option maxRecDepth 20000 in
set_option maxHeartbeats 2000000 in
theorem Tryz.sum (op : Int) (l : List Int) (ad : Option Addr) (cl : Nat) (w : World) (N : Nat) (hl : IntsAt w N ad l) (h2 : 2 ≤ l.length) :
    Calls Tryz.prog 161 #[.int .i64 op, .slice ad l.length cl] w fun e w' => e = .returned (.tuple #[.int .i64 (sumN op (l.getD 0 0) (l.getD 1 0)).1, .bool (sumN op (l.getD 0 0) (l.getD 1 0)).2]) ∧ Below w.heap.size w w' := by
  obtain ⟨p, o, rfl, hp, c0, _, _⟩ := hl 0 (by omega)
  obtain ⟨q, r, he, hq, c1, _, _⟩ := hl 1 (by omega)
  simp only [Option.some.injEq, Addr.mk.injEq, and_true] at he
  obtain ⟨rfl, rfl⟩ := he
  have e0 : l.getD 0 0 = l[0] := by rw [List.getD_eq_getElem?_getD, List.getElem?_eq_getElem (by omega)]; rfl
  have e1 : l.getD 1 0 = l[1] := by rw [List.getD_eq_getElem?_getD, List.getElem?_eq_getElem (by omega)]; rfl
  rw [e0, e1]
  clear e0 e1
  have hl0 : 0 < l.length := by omega
  have hl1 : 1 < l.length := by omega
  generalize l[0] = a at *
  generalize l[1] = b at *
  rw [Nat.add_zero] at c0
  have hb : Below w.heap.size w w.drew := (Below.refl _ _).drew
  go_enter Tryz.func161, Tryz.ntmps161
  go_upto_region 1 with fail
  go_quiet (fail)
  go_wp2_with fail
  all_goals
    go_ret2
    refine ⟨?_, by first | exact hb | exact belowDrewN (Below.refl _ _)⟩
    unfold sumN
    first | (simp [*]; done) | grind
end Go.Proofs
