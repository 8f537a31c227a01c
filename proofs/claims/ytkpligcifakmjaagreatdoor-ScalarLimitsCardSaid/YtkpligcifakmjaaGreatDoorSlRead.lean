/- ScalarLimits: ExprRead of one text of too many levels, by the abstract run. The condition: the library's table of white space. -/
import Derived.Test.YtkpligcifakmjaaGreatDoorPc
namespace Go.Ke
open Go.RowKit (Below)
open Go.Proofs

def deepText : ByteArray := ⟨#[110, 101, 103, 40, 110, 101, 103, 40, 110, 101, 103, 40, 110, 101, 103, 40, 110, 101, 103, 40, 110, 101, 103, 40, 110, 101, 103, 40, 110, 101, 103, 40, 110, 101, 103, 40, 110, 101, 103, 40, 110, 101, 103, 40, 110, 101, 103, 40, 110, 101, 103, 40, 110, 101, 103, 40, 110, 101, 103, 40, 110, 101, 103, 40, 110, 101, 103, 40, 110, 101, 103, 40, 110, 101, 103, 40, 110, 101, 103, 40, 110, 101, 103, 40, 110, 101, 103, 40, 110, 101, 103, 40, 110, 101, 103, 40, 110, 101, 103, 40, 110, 101, 103, 40, 110, 101, 103, 40, 110, 101, 103, 40, 110, 101, 103, 40, 110, 101, 103, 40, 49, 41, 41, 41, 41, 41, 41, 41, 41, 41, 41, 41, 41, 41, 41, 41, 41, 41, 41, 41, 41, 41, 41, 41, 41, 41, 41, 41, 41, 41, 41]⟩

/-- The empty expression. -/
def noExpr : Value := .agg #[.int .i64 0, .int .i64 0, .int .i64 0, .int .i64 0, .int .i64 0, .string ⟨#[]⟩, .string ⟨#[]⟩, .string ⟨#[]⟩, .bool false, .slice none 0 0, .slice none 0 0, .slice none 0 0, .slice none 0 0]

/-- The two results are the empty expression and the number 2. -/
noncomputable def deepTold : Option (Value × St) → Bool
  | some (.tuple cs, _) => match cs.toList with
    | [a, .int .i64 n] => veq a noExpr && decide (n = 2)
    | _ => false
  | _ => false

set_option maxRecDepth 100000 in
theorem deep_run : deepTold (callRun Tryz.prog sumX (fun _ _ => false) (codeRun Tryz.prog sumX (fun _ _ => false) 1000000000000) 45 [.string deepText] St.empty) = true := by kernel_rfl
end Go.Ke
