/- Of the document's package: the kind of a sum, of all kinds. The condition: the library's table of white space. -/
import Derived.Test.YtkpligcifakmjaaGreatDoorPc
import Derived.Test.YtkpligcifakmjaaGreatDoorVc
namespace Go.Proofs
open Go.RowKit Go.Ke

def sumOk (op a b : Int) : Bool := (((a == 0) || (a == 2)) && ((b == 0) || (b == 2))) || ((((a == 0) || (a == 4)) && ((b == 0) || (b == 2)) && ((op == 12) || (op == 13))) || (((a == 0) || (a == 4)) && ((b == 0) || (b == 4)) && (op == 13)))
def sumR (op a b : Int) : Int × Bool :=
  if !sumOk op a b then (0, false) else if !((op == 12) || (op == 13)) then (2, true) else if (a == 0) || (b == 0) then (0, true) else (if (a == 4) && (b == 2) then 4 else 2, true)


theorem sum_run (op a b : Int) (ho : 12 ≤ op ∧ op ≤ 16) (ha : 0 ≤ a ∧ a ≤ 4) (hb : 0 ≤ b ∧ b ≤ 4) : runC 169 [.int .i64 op, .int .i64 a, .int .i64 b] = some (.tuple #[.int .i64 (sumR op a b).1, .bool (sumR op a b).2]) := by
  obtain h1 | h1 | h1 | h1 | h1 : op = 12 ∨ op = 13 ∨ op = 14 ∨ op = 15 ∨ op = 16 := by omega
  all_goals
    subst h1
    obtain h2 | h2 | h2 | h2 | h2 : a = 0 ∨ a = 1 ∨ a = 2 ∨ a = 3 ∨ a = 4 := by omega
  all_goals
    subst h2
    obtain h3 | h3 | h3 | h3 | h3 : b = 0 ∨ b = 1 ∨ b = 2 ∨ b = 3 ∨ b = 4 := by omega
  all_goals
    subst h3
    kernel_rfl

theorem sum169 (a b c : Int) : sumX 169 [.int .i64 a, .int .i64 b, .int .i64 c] St.empty = none := rfl

theorem Tryz.sumKind (op a b : Int) (w : World) (ho : 12 ≤ op ∧ op ≤ 16) (ha : 0 ≤ a ∧ a ≤ 4) (hb : 0 ≤ b ∧ b ≤ 4) (hJ : spaceTab w.heap.size w) :
    Calls Tryz.prog 169 #[.int .i64 op, .int .i64 a, .int .i64 b] w fun e w' => e = .returned (.tuple #[.int .i64 (sumR op a b).1, .bool (sumR op a b).2]) ∧ Below w.heap.size w w' :=
  pure_call (sum169 op a b) rfl (sum_run op a b ho ha hb) w hJ
end Go.Proofs
