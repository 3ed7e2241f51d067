/-
  DERIVED. GIVEN WITH THE SEED: THE CARDS: each row of YtgbeonpbgalbnaaGreatDoorRows.lean that lists a variable, with what it lists TIED to the program's text (the seventh form; the later family's looks); each row that meets fmt, with fmt's text TOLD by the authors' own Lean function (tested against real Go, not proved from fmt's source: count such statements apart). THE CARD IS WHAT COUNTS. Prove the row's statement (the work); the ties are given (YtgbeonpbgalbnaaGreatDoorTie.lean); close each card by the builder's one call (the guide's Derived/Test/ToyasCard.lean, 'card_holds'). Laid BY PROGRAM, IN A SANDBOX (cutbox-door.mjs). By AI agents, Wed Nov 11 2026. No macro, syntax, notation, axiom, sorry.
-/
import Derived.Test.YtgbeonpbgalbnaaGreatDoorRows
import GoSem.ClaimSeven
namespace Go.Proofs.YtgbeonpbgalbnaaGreatDoor
namespace Rows

/-- THE TIED CARD OF 'hornbooklaw32.GraphNexts'. -/
def graphNextsCard : Claim7 := { stood := { row := graphNextsRow, standIns := [], harness := (true, "0f8451b60871849df3769131ea697d97aea1b34167b5370d7149548eefa4ce2e"), looks := false }, kinds := [], alts := [], laidByText := true, laidKinds := [.data, .data, .pinned], laidTests := true, laidLooks := .later }
def GraphNextsCardSaid : Prop := Claim7.holds Tryz.pinned (.plain (OpenSpec.ofChange graphNextsSpec)) graphNextsCard

/-- THE TIED CARD OF 'hornbooklaw32.GraphOnward'. -/
def graphOnwardCard : Claim7 := { stood := { row := graphOnwardRow, standIns := [], harness := (true, "0f8451b60871849df3769131ea697d97aea1b34167b5370d7149548eefa4ce2e"), looks := false }, kinds := [], alts := [], laidByText := true, laidKinds := [.data, .data, .pinned], laidTests := true, laidLooks := .later }
def GraphOnwardCardSaid : Prop := Claim7.holds Tryz.pinned (.plain (OpenSpec.ofChange graphOnwardSpec)) graphOnwardCard

/-- THE TIED CARD OF 'hornbooklaw32.GraphNil'. -/
def graphNilCard : Claim7 := { stood := { row := graphNilRow, standIns := [], harness := (true, "0f8451b60871849df3769131ea697d97aea1b34167b5370d7149548eefa4ce2e"), looks := false }, kinds := [], alts := [], laidByText := true, laidKinds := [.data, .data, .pinned], laidTests := true, laidLooks := .later }
def GraphNilCardSaid : Prop := Claim7.holds Tryz.pinned (.plain (OpenSpec.ofChange graphNilSpec)) graphNilCard

/-- THE SECOND FORM's CARD OF 'hornbooklaw32.GraphNexts'. -/
def graphNextsUptoCard : Claim7 := { stood := { row := graphNextsUptoRow, standIns := [], harness := (true, "0f8451b60871849df3769131ea697d97aea1b34167b5370d7149548eefa4ce2e"), looks := false }, kinds := [], alts := [], laidByText := true, laidKinds := [.data, .data, .pinned], laidTests := true, laidLooks := .later }
def GraphNextsUptoCardSaid : Prop := Claim7.holds Tryz.pinned (.plain (OpenSpec.upto graphNextsSpec)) graphNextsUptoCard

/-- THE SECOND FORM's CARD OF 'hornbooklaw32.GraphOnward'. -/
def graphOnwardUptoCard : Claim7 := { stood := { row := graphOnwardUptoRow, standIns := [], harness := (true, "0f8451b60871849df3769131ea697d97aea1b34167b5370d7149548eefa4ce2e"), looks := false }, kinds := [], alts := [], laidByText := true, laidKinds := [.data, .data, .pinned], laidTests := true, laidLooks := .later }
def GraphOnwardUptoCardSaid : Prop := Claim7.holds Tryz.pinned (.plain (OpenSpec.upto graphOnwardSpec)) graphOnwardUptoCard

/-- THE SECOND FORM's CARD OF 'hornbooklaw32.GraphNil'. -/
def graphNilUptoCard : Claim7 := { stood := { row := graphNilUptoRow, standIns := [], harness := (true, "0f8451b60871849df3769131ea697d97aea1b34167b5370d7149548eefa4ce2e"), looks := false }, kinds := [], alts := [], laidByText := true, laidKinds := [.data, .data, .pinned], laidTests := true, laidLooks := .later }
def GraphNilUptoCardSaid : Prop := Claim7.holds Tryz.pinned (.plain (OpenSpec.upto graphNilSpec)) graphNilUptoCard
end Rows
end Go.Proofs.YtgbeonpbgalbnaaGreatDoor
