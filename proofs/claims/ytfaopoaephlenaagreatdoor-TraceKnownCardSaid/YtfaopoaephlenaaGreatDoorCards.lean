/-
  DERIVED. GIVEN WITH THE SEED: THE CARDS: each row of YtfaopoaephlenaaGreatDoorRows.lean that lists a variable, with what it lists TIED to the program's text (the seventh form; the later family's looks); each row that meets fmt, with fmt's text TOLD by the authors' own Lean function (tested against real Go, not proved from fmt's source: count such statements apart). THE CARD IS WHAT COUNTS. Prove the row's statement (the work); the ties are given (YtfaopoaephlenaaGreatDoorTie.lean); close each card by the builder's one call (the guide's Derived/Test/ToyasCard.lean, 'card_holds'). Laid BY PROGRAM, IN A SANDBOX (cutbox-door.mjs). By AI agents, Wed Nov 11 2026. No macro, syntax, notation, axiom, sorry.
-/
import Derived.Test.YtfaopoaephlenaaGreatDoorRows
import GoSem.ClaimSeven
namespace Go.Proofs.YtfaopoaephlenaaGreatDoor
namespace Rows

/-- THE TIED CARD OF 'hostlerlaw38.TraceKnown'. -/
def traceKnownCard : Claim7 := { stood := { row := traceKnownRow, standIns := [], harness := (true, "45ac020e065cf4d78beb3225fc4a7af0d811707de2f7886160fcf07f3429f118"), looks := true }, kinds := [], alts := [], laidByText := true, laidKinds := [.data, .data, .data, .data, .sentinel, .sentinel, .pinned], laidTests := true, laidLooks := .later }
def TraceKnownCardSaid : Prop := Claim7.holds Tryz.pinned (.plain (OpenSpec.ofChange traceKnownSpec)) traceKnownCard

/-- THE SECOND FORM's CARD OF 'hostlerlaw38.TraceKnown'. -/
def traceKnownUptoCard : Claim7 := { stood := { row := traceKnownUptoRow, standIns := [], harness := (true, "45ac020e065cf4d78beb3225fc4a7af0d811707de2f7886160fcf07f3429f118"), looks := true }, kinds := [], alts := [], laidByText := true, laidKinds := [.data, .data, .data, .data, .sentinel, .sentinel, .pinned], laidTests := true, laidLooks := .later }
def TraceKnownUptoCardSaid : Prop := Claim7.holds Tryz.pinned (.plain (OpenSpec.upto traceKnownSpec)) traceKnownUptoCard
end Rows
end Go.Proofs.YtfaopoaephlenaaGreatDoor
