/-
  DERIVED. GIVEN WITH THE SEED: THE CARDS: each row of YtmnlcldhhlkpeaaGreatDoorRows.lean that lists a variable, with what it lists TIED to the program's text (the seventh form; the later family's looks); each row that meets fmt, with fmt's text TOLD by the authors' own Lean function (tested against real Go, not proved from fmt's source: count such statements apart). THE CARD IS WHAT COUNTS. Prove the row's statement (the work); the ties are given (YtmnlcldhhlkpeaaGreatDoorTie.lean); close each card by the builder's one call (the guide's Derived/Test/ToyasCard.lean, 'card_holds'). Laid BY PROGRAM, IN A SANDBOX (cutbox-door.mjs). By AI agents, Wed Nov 11 2026. No macro, syntax, notation, axiom, sorry.
-/
import Derived.Test.YtmnlcldhhlkpeaaGreatDoorRows
import GoSem.ClaimSeven
namespace Go.Proofs.YtmnlcldhhlkpeaaGreatDoor
namespace Rows

/-- THE TIED CARD OF 'dumbkeep1.ValueLaws'. -/
def valueLawsCard : Claim7 := { stood := { row := valueLawsRow, standIns := [], harness := (true, "2bff227f066647d1c00f374faa048ff5acb712ed82ee23334c406b2ca039ae64"), looks := true }, kinds := [], alts := [], laidByText := true, laidKinds := [.pinned, .data, .data, .listed, .sentinel, .sentinel, .data, .data, .data, .pinned], laidTests := true, laidLooks := .later }
def ValueLawsCardSaid : Prop := Claim7.holds Tryz.pinned (.plain (OpenSpec.ofChange valueLawsSpec)) valueLawsCard

/-- THE TIED CARD OF 'dumbkeep1.ValueBack'. -/
def valueBackCard : Claim7 := { stood := { row := valueBackRow, standIns := [], harness := (true, "2bff227f066647d1c00f374faa048ff5acb712ed82ee23334c406b2ca039ae64"), looks := true }, kinds := [], alts := [], laidByText := true, laidKinds := [.data, .data, .data, .pinned, .data, .sentinel, .sentinel, .data, .listed, .pinned], laidTests := true, laidLooks := .later }
def ValueBackCardSaid : Prop := Claim7.holds Tryz.pinned (.plain (OpenSpec.ofChange valueBackSpec)) valueBackCard

/-- THE TIED CARD OF 'dumbkeep1.ValueKept'. -/
def valueKeptCard : Claim7 := { stood := { row := valueKeptRow, standIns := [], harness := (true, "2bff227f066647d1c00f374faa048ff5acb712ed82ee23334c406b2ca039ae64"), looks := true }, kinds := [], alts := [], laidByText := true, laidKinds := [.data, .data, .data, .pinned, .data, .sentinel, .sentinel, .data, .listed, .pinned], laidTests := true, laidLooks := .later }
def ValueKeptCardSaid : Prop := Claim7.holds Tryz.pinned (.plain (OpenSpec.ofChange valueKeptSpec)) valueKeptCard

/-- THE SECOND FORM's CARD OF 'dumbkeep1.ValueLaws'. -/
def valueLawsUptoCard : Claim7 := { stood := { row := valueLawsUptoRow, standIns := [], harness := (true, "2bff227f066647d1c00f374faa048ff5acb712ed82ee23334c406b2ca039ae64"), looks := true }, kinds := [], alts := [], laidByText := true, laidKinds := [.pinned, .data, .data, .listed, .sentinel, .sentinel, .data, .data, .data, .pinned], laidTests := true, laidLooks := .later }
def ValueLawsUptoCardSaid : Prop := Claim7.holds Tryz.pinned (.plain (OpenSpec.upto valueLawsSpec)) valueLawsUptoCard

/-- THE SECOND FORM's CARD OF 'dumbkeep1.ValueBack'. -/
def valueBackUptoCard : Claim7 := { stood := { row := valueBackUptoRow, standIns := [], harness := (true, "2bff227f066647d1c00f374faa048ff5acb712ed82ee23334c406b2ca039ae64"), looks := true }, kinds := [], alts := [], laidByText := true, laidKinds := [.data, .data, .data, .pinned, .data, .sentinel, .sentinel, .data, .listed, .pinned], laidTests := true, laidLooks := .later }
def ValueBackUptoCardSaid : Prop := Claim7.holds Tryz.pinned (.plain (OpenSpec.upto valueBackSpec)) valueBackUptoCard

/-- THE SECOND FORM's CARD OF 'dumbkeep1.ValueKept'. -/
def valueKeptUptoCard : Claim7 := { stood := { row := valueKeptUptoRow, standIns := [], harness := (true, "2bff227f066647d1c00f374faa048ff5acb712ed82ee23334c406b2ca039ae64"), looks := true }, kinds := [], alts := [], laidByText := true, laidKinds := [.data, .data, .data, .pinned, .data, .sentinel, .sentinel, .data, .listed, .pinned], laidTests := true, laidLooks := .later }
def ValueKeptUptoCardSaid : Prop := Claim7.holds Tryz.pinned (.plain (OpenSpec.upto valueKeptSpec)) valueKeptUptoCard
end Rows
end Go.Proofs.YtmnlcldhhlkpeaaGreatDoor
