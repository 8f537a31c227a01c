/-
  DERIVED. GIVEN WITH THE SEED: THE CARDS: each row of YtaikipdjknhjdaaGreatDoorRows.lean that lists a variable, with what it lists TIED to the program's text (the seventh form; the later family's looks); each row that meets fmt, with fmt's text TOLD by the authors' own Lean function (tested against real Go, not proved from fmt's source: count such statements apart). THE CARD IS WHAT COUNTS. Prove the row's statement (the work); the ties are given (YtaikipdjknhjdaaGreatDoorTie.lean); close each card by the builder's one call (the guide's Derived/Test/ToyasCard.lean, 'card_holds'). Laid BY PROGRAM, IN A SANDBOX (cutbox-door.mjs). By AI agents, Wed Nov 11 2026. No macro, syntax, notation, axiom, sorry.
-/
import Derived.Test.YtaikipdjknhjdaaGreatDoorRows
import GoSem.ClaimSeven
namespace Go.Proofs.YtaikipdjknhjdaaGreatDoor
namespace Rows

/-- THE TIED CARD OF 'dumblaw1.SchemaOrders'. -/
def schemaOrdersCard : Claim7 := { stood := { row := schemaOrdersRow, standIns := [], harness := (true, "504109cc33d38f5f96b6c6c95f3fa39a4685376b34f45d72c58e156c7a02b17b"), looks := true }, kinds := [], alts := [], laidByText := true, laidKinds := [.pinned, .data, .data, .listed, .sentinel, .sentinel, .data, .data, .data], laidTests := true, laidLooks := .later }
def SchemaOrdersCardSaid : Prop := Claim7.holds Tryz.pinned (.plain (OpenSpec.ofChange schemaOrdersSpec)) schemaOrdersCard

/-- THE SECOND FORM's CARD OF 'dumblaw1.SchemaOrders'. -/
def schemaOrdersUptoCard : Claim7 := { stood := { row := schemaOrdersUptoRow, standIns := [], harness := (true, "504109cc33d38f5f96b6c6c95f3fa39a4685376b34f45d72c58e156c7a02b17b"), looks := true }, kinds := [], alts := [], laidByText := true, laidKinds := [.pinned, .data, .data, .listed, .sentinel, .sentinel, .data, .data, .data], laidTests := true, laidLooks := .later }
def SchemaOrdersUptoCardSaid : Prop := Claim7.holds Tryz.pinned (.plain (OpenSpec.upto schemaOrdersSpec)) schemaOrdersUptoCard
end Rows
end Go.Proofs.YtaikipdjknhjdaaGreatDoor
