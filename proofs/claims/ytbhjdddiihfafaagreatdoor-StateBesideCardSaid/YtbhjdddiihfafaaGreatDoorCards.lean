/-
  DERIVED. GIVEN WITH THE SEED: THE CARDS: each row of YtbhjdddiihfafaaGreatDoorRows.lean that lists a variable, with what it lists TIED to the program's text (the seventh form; the later family's looks); each row that meets fmt, with fmt's text TOLD by the authors' own Lean function (tested against real Go, not proved from fmt's source: count such statements apart). THE CARD IS WHAT COUNTS. Prove the row's statement (the work); the ties are given (YtbhjdddiihfafaaGreatDoorTie.lean); close each card by the builder's one call (the guide's Derived/Test/ToyasCard.lean, 'card_holds'). Laid BY PROGRAM, IN A SANDBOX (cutbox-door.mjs). By AI agents, Wed Nov 11 2026. No macro, syntax, notation, axiom, sorry.
-/
import Derived.Test.YtbhjdddiihfafaaGreatDoorRows
import GoSem.ClaimSeven
namespace Go.Proofs.YtbhjdddiihfafaaGreatDoor
namespace Rows

/-- THE TIED CARD OF 'haversacklaw22.StateBeside'. -/
def stateBesideCard : Claim7 := { stood := { row := stateBesideRow, standIns := [], harness := (true, "85a490057606f159ecb8510a1db3e0fe0d2a6ba9b48c6197cf90d580206e6a17"), looks := true }, kinds := [], alts := [], laidByText := true, laidKinds := [.data, .data, .data, .data, .sentinel, .sentinel, .pinned], laidTests := true, laidLooks := .later }
def StateBesideCardSaid : Prop := Claim7.holds Tryz.pinned (.plain (OpenSpec.ofChange stateBesideSpec)) stateBesideCard

/-- THE TIED CARD OF 'haversacklaw22.StateTurned'. -/
def stateTurnedCard : Claim7 := { stood := { row := stateTurnedRow, standIns := [], harness := (true, "85a490057606f159ecb8510a1db3e0fe0d2a6ba9b48c6197cf90d580206e6a17"), looks := true }, kinds := [], alts := [], laidByText := true, laidKinds := [.data, .data, .data, .data, .sentinel, .sentinel, .pinned], laidTests := true, laidLooks := .later }
def StateTurnedCardSaid : Prop := Claim7.holds Tryz.pinned (.plain (OpenSpec.ofChange stateTurnedSpec)) stateTurnedCard

/-- THE TIED CARD OF 'haversacklaw22.StateSaves'. -/
def stateSavesCard : Claim7 := { stood := { row := stateSavesRow, standIns := [], harness := (true, "85a490057606f159ecb8510a1db3e0fe0d2a6ba9b48c6197cf90d580206e6a17"), looks := true }, kinds := [], alts := [], laidByText := true, laidKinds := [.data, .data, .data, .data, .sentinel, .sentinel, .pinned], laidTests := true, laidLooks := .later }
def StateSavesCardSaid : Prop := Claim7.holds Tryz.pinned (.plain (OpenSpec.ofChange stateSavesSpec)) stateSavesCard

/-- THE SECOND FORM's CARD OF 'haversacklaw22.StateBeside'. -/
def stateBesideUptoCard : Claim7 := { stood := { row := stateBesideUptoRow, standIns := [], harness := (true, "85a490057606f159ecb8510a1db3e0fe0d2a6ba9b48c6197cf90d580206e6a17"), looks := true }, kinds := [], alts := [], laidByText := true, laidKinds := [.data, .data, .data, .data, .sentinel, .sentinel, .pinned], laidTests := true, laidLooks := .later }
def StateBesideUptoCardSaid : Prop := Claim7.holds Tryz.pinned (.plain (OpenSpec.upto stateBesideSpec)) stateBesideUptoCard

/-- THE SECOND FORM's CARD OF 'haversacklaw22.StateTurned'. -/
def stateTurnedUptoCard : Claim7 := { stood := { row := stateTurnedUptoRow, standIns := [], harness := (true, "85a490057606f159ecb8510a1db3e0fe0d2a6ba9b48c6197cf90d580206e6a17"), looks := true }, kinds := [], alts := [], laidByText := true, laidKinds := [.data, .data, .data, .data, .sentinel, .sentinel, .pinned], laidTests := true, laidLooks := .later }
def StateTurnedUptoCardSaid : Prop := Claim7.holds Tryz.pinned (.plain (OpenSpec.upto stateTurnedSpec)) stateTurnedUptoCard

/-- THE SECOND FORM's CARD OF 'haversacklaw22.StateSaves'. -/
def stateSavesUptoCard : Claim7 := { stood := { row := stateSavesUptoRow, standIns := [], harness := (true, "85a490057606f159ecb8510a1db3e0fe0d2a6ba9b48c6197cf90d580206e6a17"), looks := true }, kinds := [], alts := [], laidByText := true, laidKinds := [.data, .data, .data, .data, .sentinel, .sentinel, .pinned], laidTests := true, laidLooks := .later }
def StateSavesUptoCardSaid : Prop := Claim7.holds Tryz.pinned (.plain (OpenSpec.upto stateSavesSpec)) stateSavesUptoCard
end Rows
end Go.Proofs.YtbhjdddiihfafaaGreatDoor
