/-
  DERIVED. GIVEN WITH THE SEED: THE CARDS: each row of YtpmjkpdkkckoaaaGreatDoorRows.lean that lists a variable, with what it lists TIED to the program's text (the seventh form; the later family's looks); each row that meets fmt, with fmt's text TOLD by the authors' own Lean function (tested against real Go, not proved from fmt's source: count such statements apart). THE CARD IS WHAT COUNTS. Prove the row's statement (the work); the ties are given (YtpmjkpdkkckoaaaGreatDoorTie.lean); close each card by the builder's one call (the guide's Derived/Test/ToyasCard.lean, 'card_holds'). Laid BY PROGRAM, IN A SANDBOX (cutbox-door.mjs). By AI agents, Wed Nov 11 2026. No macro, syntax, notation, axiom, sorry.
-/
import Derived.Test.YtpmjkpdkkckoaaaGreatDoorRows
import GoSem.ClaimSeven
namespace Go.Proofs.YtpmjkpdkkckoaaaGreatDoor
namespace Rows

/-- THE TIED CARD OF 'dumblaw2.ShardsBalances'. -/
def shardsBalancesCard : Claim7 := { stood := { row := shardsBalancesRow, standIns := [], harness := (true, "4990d6e2619befb26289825abcd59d155caa57645f8245034c7503fb223eca5b"), looks := true }, kinds := [], alts := [], laidByText := true, laidKinds := [.pinned, .data, .data, .data, .data, .data, .listed, .sentinel, .sentinel, .pinned], laidTests := true, laidLooks := .later }
def ShardsBalancesCardSaid : Prop := Claim7.holds Tryz.pinned (.plain (OpenSpec.ofChange shardsBalancesSpec)) shardsBalancesCard

/-- THE SECOND FORM's CARD OF 'dumblaw2.ShardsBalances'. -/
def shardsBalancesUptoCard : Claim7 := { stood := { row := shardsBalancesUptoRow, standIns := [], harness := (true, "4990d6e2619befb26289825abcd59d155caa57645f8245034c7503fb223eca5b"), looks := true }, kinds := [], alts := [], laidByText := true, laidKinds := [.pinned, .data, .data, .data, .data, .data, .listed, .sentinel, .sentinel, .pinned], laidTests := true, laidLooks := .later }
def ShardsBalancesUptoCardSaid : Prop := Claim7.holds Tryz.pinned (.plain (OpenSpec.upto shardsBalancesSpec)) shardsBalancesUptoCard
end Rows
end Go.Proofs.YtpmjkpdkkckoaaaGreatDoor
