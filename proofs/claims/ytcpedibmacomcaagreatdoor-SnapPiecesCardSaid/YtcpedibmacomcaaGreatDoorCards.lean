/-
  DERIVED. GIVEN WITH THE SEED: THE CARDS: each row of YtcpedibmacomcaaGreatDoorRows.lean that lists a variable, with what it lists TIED to the program's text (the seventh form; the later family's looks); each row that meets fmt, with fmt's text TOLD by the authors' own Lean function (tested against real Go, not proved from fmt's source: count such statements apart). THE CARD IS WHAT COUNTS. Prove the row's statement (the work); the ties are given (YtcpedibmacomcaaGreatDoorTie.lean); close each card by the builder's one call (the guide's Derived/Test/ToyasCard.lean, 'card_holds'). Laid BY PROGRAM, IN A SANDBOX (cutbox-door.mjs). By AI agents, Wed Nov 11 2026. No macro, syntax, notation, axiom, sorry.
-/
import Derived.Test.YtcpedibmacomcaaGreatDoorRows
import GoSem.ClaimSeven
namespace Go.Proofs.YtcpedibmacomcaaGreatDoor
namespace Rows

/-- THE TIED CARD OF 'lagoonlaw09.SnapPieces'. -/
def snapPiecesCard : Claim7 := { stood := { row := snapPiecesRow, standIns := [], harness := (true, "75a5e4892427ba50fc9aed9f92f7f2e08c3ddec033dbcc10a16750f4fddf12f8"), looks := true }, kinds := [], alts := [], laidByText := true, laidKinds := [.data, .data, .data, .data, .sentinel, .sentinel, .pinned], laidTests := true, laidLooks := .later }
def SnapPiecesCardSaid : Prop := Claim7.holds Tryz.pinned (.plain (OpenSpec.ofChange snapPiecesSpec)) snapPiecesCard

/-- THE TIED CARD OF 'lagoonlaw09.SnapJoins'. -/
def snapJoinsCard : Claim7 := { stood := { row := snapJoinsRow, standIns := [], harness := (true, "75a5e4892427ba50fc9aed9f92f7f2e08c3ddec033dbcc10a16750f4fddf12f8"), looks := true }, kinds := [], alts := [], laidByText := true, laidKinds := [.data, .data, .data, .data, .sentinel, .sentinel, .pinned], laidTests := true, laidLooks := .later }
def SnapJoinsCardSaid : Prop := Claim7.holds Tryz.pinned (.plain (OpenSpec.ofChange snapJoinsSpec)) snapJoinsCard

/-- THE SECOND FORM's CARD OF 'lagoonlaw09.SnapPieces'. -/
def snapPiecesUptoCard : Claim7 := { stood := { row := snapPiecesUptoRow, standIns := [], harness := (true, "75a5e4892427ba50fc9aed9f92f7f2e08c3ddec033dbcc10a16750f4fddf12f8"), looks := true }, kinds := [], alts := [], laidByText := true, laidKinds := [.data, .data, .data, .data, .sentinel, .sentinel, .pinned], laidTests := true, laidLooks := .later }
def SnapPiecesUptoCardSaid : Prop := Claim7.holds Tryz.pinned (.plain (OpenSpec.upto snapPiecesSpec)) snapPiecesUptoCard

/-- THE SECOND FORM's CARD OF 'lagoonlaw09.SnapJoins'. -/
def snapJoinsUptoCard : Claim7 := { stood := { row := snapJoinsUptoRow, standIns := [], harness := (true, "75a5e4892427ba50fc9aed9f92f7f2e08c3ddec033dbcc10a16750f4fddf12f8"), looks := true }, kinds := [], alts := [], laidByText := true, laidKinds := [.data, .data, .data, .data, .sentinel, .sentinel, .pinned], laidTests := true, laidLooks := .later }
def SnapJoinsUptoCardSaid : Prop := Claim7.holds Tryz.pinned (.plain (OpenSpec.upto snapJoinsSpec)) snapJoinsUptoCard
end Rows
end Go.Proofs.YtcpedibmacomcaaGreatDoor
