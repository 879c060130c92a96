/-
  DERIVED. GIVEN WITH THE SEED: THE CARDS: each row of YtjkihpbpnoelnaaGreatDoorRows.lean that lists a variable, with what it lists TIED to the program's text (the seventh form; the later family's looks); each row that meets fmt, with fmt's text TOLD by the authors' own Lean function (tested against real Go, not proved from fmt's source: count such statements apart). THE CARD IS WHAT COUNTS. Prove the row's statement (the work); the ties are given (YtjkihpbpnoelnaaGreatDoorTie.lean); close each card by the builder's one call (the guide's Derived/Test/ToyasCard.lean, 'card_holds'). Laid BY PROGRAM, IN A SANDBOX (cutbox-door.mjs). By AI agents, Wed Nov 11 2026. No macro, syntax, notation, axiom, sorry.
-/
import Derived.Test.YtjkihpbpnoelnaaGreatDoorRows
import GoSem.ClaimSeven
namespace Go.Proofs.YtjkihpbpnoelnaaGreatDoor
namespace Rows

/-- THE TIED CARD OF 'hostlerlaw37.PrioKnown'. -/
def prioKnownCard : Claim7 := { stood := { row := prioKnownRow, standIns := [], harness := (true, "eb5d953ebb74309298266d13e62cfcacb2959bf0075b1daef85f2d7d1c561567"), looks := true }, kinds := [], alts := [], laidByText := true, laidKinds := [.data, .data, .data, .data, .sentinel, .sentinel, .pinned], laidTests := true, laidLooks := .later }
def PrioKnownCardSaid : Prop := Claim7.holds Tryz.pinned (.plain (OpenSpec.ofChange prioKnownSpec)) prioKnownCard

/-- THE TIED CARD OF 'hostlerlaw37.PrioPlays'. -/
def prioPlaysCard : Claim7 := { stood := { row := prioPlaysRow, standIns := [], harness := (true, "eb5d953ebb74309298266d13e62cfcacb2959bf0075b1daef85f2d7d1c561567"), looks := true }, kinds := [], alts := [], laidByText := true, laidKinds := [.data, .data, .data, .data, .sentinel, .sentinel, .pinned], laidTests := true, laidLooks := .later }
def PrioPlaysCardSaid : Prop := Claim7.holds Tryz.pinned (.plain (OpenSpec.ofChange prioPlaysSpec)) prioPlaysCard

/-- THE TIED CARD OF 'hostlerlaw37.PrioFirst'. -/
def prioFirstCard : Claim7 := { stood := { row := prioFirstRow, standIns := [], harness := (true, "eb5d953ebb74309298266d13e62cfcacb2959bf0075b1daef85f2d7d1c561567"), looks := true }, kinds := [], alts := [], laidByText := true, laidKinds := [.data, .data, .data, .data, .sentinel, .sentinel, .pinned], laidTests := true, laidLooks := .later }
def PrioFirstCardSaid : Prop := Claim7.holds Tryz.pinned (.plain (OpenSpec.ofChange prioFirstSpec)) prioFirstCard

/-- THE TIED CARD OF 'hostlerlaw37.PrioTurns'. -/
def prioTurnsCard : Claim7 := { stood := { row := prioTurnsRow, standIns := [], harness := (true, "eb5d953ebb74309298266d13e62cfcacb2959bf0075b1daef85f2d7d1c561567"), looks := true }, kinds := [], alts := [], laidByText := true, laidKinds := [.data, .data, .data, .data, .sentinel, .sentinel, .pinned], laidTests := true, laidLooks := .later }
def PrioTurnsCardSaid : Prop := Claim7.holds Tryz.pinned (.plain (OpenSpec.ofChange prioTurnsSpec)) prioTurnsCard

/-- THE SECOND FORM's CARD OF 'hostlerlaw37.PrioKnown'. -/
def prioKnownUptoCard : Claim7 := { stood := { row := prioKnownUptoRow, standIns := [], harness := (true, "eb5d953ebb74309298266d13e62cfcacb2959bf0075b1daef85f2d7d1c561567"), looks := true }, kinds := [], alts := [], laidByText := true, laidKinds := [.data, .data, .data, .data, .sentinel, .sentinel, .pinned], laidTests := true, laidLooks := .later }
def PrioKnownUptoCardSaid : Prop := Claim7.holds Tryz.pinned (.plain (OpenSpec.upto prioKnownSpec)) prioKnownUptoCard

/-- THE SECOND FORM's CARD OF 'hostlerlaw37.PrioPlays'. -/
def prioPlaysUptoCard : Claim7 := { stood := { row := prioPlaysUptoRow, standIns := [], harness := (true, "eb5d953ebb74309298266d13e62cfcacb2959bf0075b1daef85f2d7d1c561567"), looks := true }, kinds := [], alts := [], laidByText := true, laidKinds := [.data, .data, .data, .data, .sentinel, .sentinel, .pinned], laidTests := true, laidLooks := .later }
def PrioPlaysUptoCardSaid : Prop := Claim7.holds Tryz.pinned (.plain (OpenSpec.upto prioPlaysSpec)) prioPlaysUptoCard

/-- THE SECOND FORM's CARD OF 'hostlerlaw37.PrioFirst'. -/
def prioFirstUptoCard : Claim7 := { stood := { row := prioFirstUptoRow, standIns := [], harness := (true, "eb5d953ebb74309298266d13e62cfcacb2959bf0075b1daef85f2d7d1c561567"), looks := true }, kinds := [], alts := [], laidByText := true, laidKinds := [.data, .data, .data, .data, .sentinel, .sentinel, .pinned], laidTests := true, laidLooks := .later }
def PrioFirstUptoCardSaid : Prop := Claim7.holds Tryz.pinned (.plain (OpenSpec.upto prioFirstSpec)) prioFirstUptoCard

/-- THE SECOND FORM's CARD OF 'hostlerlaw37.PrioTurns'. -/
def prioTurnsUptoCard : Claim7 := { stood := { row := prioTurnsUptoRow, standIns := [], harness := (true, "eb5d953ebb74309298266d13e62cfcacb2959bf0075b1daef85f2d7d1c561567"), looks := true }, kinds := [], alts := [], laidByText := true, laidKinds := [.data, .data, .data, .data, .sentinel, .sentinel, .pinned], laidTests := true, laidLooks := .later }
def PrioTurnsUptoCardSaid : Prop := Claim7.holds Tryz.pinned (.plain (OpenSpec.upto prioTurnsSpec)) prioTurnsUptoCard
end Rows
end Go.Proofs.YtjkihpbpnoelnaaGreatDoor
