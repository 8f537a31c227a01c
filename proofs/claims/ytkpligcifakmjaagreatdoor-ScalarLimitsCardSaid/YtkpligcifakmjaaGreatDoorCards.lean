/-
  DERIVED. GIVEN WITH THE SEED: THE CARDS: each row of YtkpligcifakmjaaGreatDoorRows.lean that lists a variable, with what it lists TIED to the program's text (the seventh form; the later family's looks); each row that meets fmt, with fmt's text TOLD by the authors' own Lean function (tested against real Go, not proved from fmt's source: count such statements apart). THE CARD IS WHAT COUNTS. Prove the row's statement (the work); the ties are given (YtkpligcifakmjaaGreatDoorTie.lean); close each card by the builder's one call (the guide's Derived/Test/ToyasCard.lean, 'card_holds'). Laid BY PROGRAM, IN A SANDBOX (cutbox-door.mjs). By AI agents, Wed Nov 11 2026. No macro, syntax, notation, axiom, sorry.
-/
import Derived.Test.YtkpligcifakmjaaGreatDoorRows
import GoSem.ClaimSeven
namespace Go.Proofs.YtkpligcifakmjaaGreatDoor
namespace Rows

/-- THE TIED CARD OF 'dumblaw1.ValueChecks'. -/
def valueChecksCard : Claim7 := { stood := { row := valueChecksRow, standIns := [], harness := (true, "3f928f381abdfb84382c89c307b980ad4b1a8f7086e1af7ab5b41530dc67692e"), looks := true }, kinds := [], alts := [], laidByText := true, laidKinds := [.data, .data, .data, .data, .sentinel, .sentinel, .listed, .data, .pinned, .pinned], laidTests := true, laidLooks := .later }
def ValueChecksCardSaid : Prop := Claim7.holds Tryz.pinned (.plain (OpenSpec.ofChange valueChecksSpec)) valueChecksCard

/-- THE TIED CARD OF 'dumblaw1.ValueMoments'. -/
def valueMomentsCard : Claim7 := { stood := { row := valueMomentsRow, standIns := [], harness := (true, "3f928f381abdfb84382c89c307b980ad4b1a8f7086e1af7ab5b41530dc67692e"), looks := true }, kinds := [], alts := [], laidByText := true, laidKinds := [.data, .data, .data, .data, .sentinel, .sentinel, .listed, .data, .pinned, .pinned], laidTests := true, laidLooks := .later }
def ValueMomentsCardSaid : Prop := Claim7.holds Tryz.pinned (.plain (OpenSpec.ofChange valueMomentsSpec)) valueMomentsCard

/-- THE TIED CARD OF 'dumblaw1.ValueOrders'. -/
def valueOrdersCard : Claim7 := { stood := { row := valueOrdersRow, standIns := [], harness := (true, "3f928f381abdfb84382c89c307b980ad4b1a8f7086e1af7ab5b41530dc67692e"), looks := true }, kinds := [], alts := [], laidByText := true, laidKinds := [.data, .data, .data, .data, .sentinel, .sentinel, .listed, .data, .pinned, .pinned], laidTests := true, laidLooks := .later }
def ValueOrdersCardSaid : Prop := Claim7.holds Tryz.pinned (.plain (OpenSpec.ofChange valueOrdersSpec)) valueOrdersCard

/-- THE TIED CARD OF 'dumblaw1.ValueKeys'. -/
def valueKeysCard : Claim7 := { stood := { row := valueKeysRow, standIns := [], harness := (true, "3f928f381abdfb84382c89c307b980ad4b1a8f7086e1af7ab5b41530dc67692e"), looks := true }, kinds := [], alts := [], laidByText := true, laidKinds := [.data, .data, .data, .data, .sentinel, .sentinel, .listed, .data, .pinned, .pinned], laidTests := true, laidLooks := .later }
def ValueKeysCardSaid : Prop := Claim7.holds Tryz.pinned (.plain (OpenSpec.ofChange valueKeysSpec)) valueKeysCard

/-- THE TIED CARD OF 'dumblaw1.ScalarKinds'. -/
def scalarKindsCard : Claim7 := { stood := { row := scalarKindsRow, standIns := [], harness := (true, "3f928f381abdfb84382c89c307b980ad4b1a8f7086e1af7ab5b41530dc67692e"), looks := true }, kinds := [], alts := [], laidByText := true, laidKinds := [.data, .data, .data, .data, .sentinel, .sentinel, .listed, .data, .pinned, .pinned], laidTests := true, laidLooks := .later }
def ScalarKindsCardSaid : Prop := Claim7.holds Tryz.pinned (.plain (OpenSpec.ofChange scalarKindsSpec)) scalarKindsCard

/-- THE TIED CARD OF 'dumblaw1.ScalarLimits'. -/
def scalarLimitsCard : Claim7 := { stood := { row := scalarLimitsRow, standIns := [], harness := (true, "3f928f381abdfb84382c89c307b980ad4b1a8f7086e1af7ab5b41530dc67692e"), looks := true }, kinds := [], alts := [], laidByText := true, laidKinds := [.data, .data, .data, .data, .sentinel, .sentinel, .listed, .data, .pinned, .pinned], laidTests := true, laidLooks := .later }
def ScalarLimitsCardSaid : Prop := Claim7.holds Tryz.pinned (.plain (OpenSpec.ofChange scalarLimitsSpec)) scalarLimitsCard

/-- THE SECOND FORM's CARD OF 'dumblaw1.ValueChecks'. -/
def valueChecksUptoCard : Claim7 := { stood := { row := valueChecksUptoRow, standIns := [], harness := (true, "3f928f381abdfb84382c89c307b980ad4b1a8f7086e1af7ab5b41530dc67692e"), looks := true }, kinds := [], alts := [], laidByText := true, laidKinds := [.data, .data, .data, .data, .sentinel, .sentinel, .listed, .data, .pinned, .pinned], laidTests := true, laidLooks := .later }
def ValueChecksUptoCardSaid : Prop := Claim7.holds Tryz.pinned (.plain (OpenSpec.upto valueChecksSpec)) valueChecksUptoCard

/-- THE SECOND FORM's CARD OF 'dumblaw1.ValueMoments'. -/
def valueMomentsUptoCard : Claim7 := { stood := { row := valueMomentsUptoRow, standIns := [], harness := (true, "3f928f381abdfb84382c89c307b980ad4b1a8f7086e1af7ab5b41530dc67692e"), looks := true }, kinds := [], alts := [], laidByText := true, laidKinds := [.data, .data, .data, .data, .sentinel, .sentinel, .listed, .data, .pinned, .pinned], laidTests := true, laidLooks := .later }
def ValueMomentsUptoCardSaid : Prop := Claim7.holds Tryz.pinned (.plain (OpenSpec.upto valueMomentsSpec)) valueMomentsUptoCard

/-- THE SECOND FORM's CARD OF 'dumblaw1.ValueOrders'. -/
def valueOrdersUptoCard : Claim7 := { stood := { row := valueOrdersUptoRow, standIns := [], harness := (true, "3f928f381abdfb84382c89c307b980ad4b1a8f7086e1af7ab5b41530dc67692e"), looks := true }, kinds := [], alts := [], laidByText := true, laidKinds := [.data, .data, .data, .data, .sentinel, .sentinel, .listed, .data, .pinned, .pinned], laidTests := true, laidLooks := .later }
def ValueOrdersUptoCardSaid : Prop := Claim7.holds Tryz.pinned (.plain (OpenSpec.upto valueOrdersSpec)) valueOrdersUptoCard

/-- THE SECOND FORM's CARD OF 'dumblaw1.ValueKeys'. -/
def valueKeysUptoCard : Claim7 := { stood := { row := valueKeysUptoRow, standIns := [], harness := (true, "3f928f381abdfb84382c89c307b980ad4b1a8f7086e1af7ab5b41530dc67692e"), looks := true }, kinds := [], alts := [], laidByText := true, laidKinds := [.data, .data, .data, .data, .sentinel, .sentinel, .listed, .data, .pinned, .pinned], laidTests := true, laidLooks := .later }
def ValueKeysUptoCardSaid : Prop := Claim7.holds Tryz.pinned (.plain (OpenSpec.upto valueKeysSpec)) valueKeysUptoCard

/-- THE SECOND FORM's CARD OF 'dumblaw1.ScalarKinds'. -/
def scalarKindsUptoCard : Claim7 := { stood := { row := scalarKindsUptoRow, standIns := [], harness := (true, "3f928f381abdfb84382c89c307b980ad4b1a8f7086e1af7ab5b41530dc67692e"), looks := true }, kinds := [], alts := [], laidByText := true, laidKinds := [.data, .data, .data, .data, .sentinel, .sentinel, .listed, .data, .pinned, .pinned], laidTests := true, laidLooks := .later }
def ScalarKindsUptoCardSaid : Prop := Claim7.holds Tryz.pinned (.plain (OpenSpec.upto scalarKindsSpec)) scalarKindsUptoCard

/-- THE SECOND FORM's CARD OF 'dumblaw1.ScalarLimits'. -/
def scalarLimitsUptoCard : Claim7 := { stood := { row := scalarLimitsUptoRow, standIns := [], harness := (true, "3f928f381abdfb84382c89c307b980ad4b1a8f7086e1af7ab5b41530dc67692e"), looks := true }, kinds := [], alts := [], laidByText := true, laidKinds := [.data, .data, .data, .data, .sentinel, .sentinel, .listed, .data, .pinned, .pinned], laidTests := true, laidLooks := .later }
def ScalarLimitsUptoCardSaid : Prop := Claim7.holds Tryz.pinned (.plain (OpenSpec.upto scalarLimitsSpec)) scalarLimitsUptoCard
end Rows
end Go.Proofs.YtkpligcifakmjaaGreatDoor
