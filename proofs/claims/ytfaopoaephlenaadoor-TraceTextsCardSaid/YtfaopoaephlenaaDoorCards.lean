/-
  DERIVED. GIVEN WITH THE SEED: THE CARDS: each row of YtfaopoaephlenaaDoorRows.lean that lists a variable, with what it lists TIED to the program's text (the seventh form; the later family's looks); each row that meets fmt, with fmt's text TOLD by the authors' own Lean function (tested against real Go, not proved from fmt's source: count such statements apart). THE CARD IS WHAT COUNTS. Prove the row's statement (the work); the ties are given (YtfaopoaephlenaaDoorTie.lean); close each card by the builder's one call (the guide's Derived/Test/ToyasCard.lean, 'card_holds'). Laid BY PROGRAM, IN A SANDBOX (cutbox-door.mjs). By AI agents, Wed Nov 11 2026. No macro, syntax, notation, axiom, sorry.
-/
import Derived.Test.YtfaopoaephlenaaDoorRows
import GoSem.ClaimSeven
namespace Go.Proofs.YtfaopoaephlenaaDoor
namespace Rows

/-- THE TIED CARD OF 'hostlerlaw38.TraceTexts'. -/
def traceTextsCard : Claim7 := { stood := { row := traceTextsRow, standIns := [], harness := (true, "c0bc11ae2da77abb9b67ecd1912f50debd1255db923a09c0bad57a34bd9227df"), looks := true }, kinds := [], alts := [], laidByText := true, laidKinds := [.data, .data, .data, .data, .sentinel, .sentinel, .pinned], laidTests := true, laidLooks := .later }
def TraceTextsCardSaid : Prop := Claim7.holds Tryd.pinned (.plain (OpenSpec.ofChange traceTextsSpec)) traceTextsCard

/-- THE TIED CARD OF 'hostlerlaw38.TraceTotals'. -/
def traceTotalsCard : Claim7 := { stood := { row := traceTotalsRow, standIns := [], harness := (true, "c0bc11ae2da77abb9b67ecd1912f50debd1255db923a09c0bad57a34bd9227df"), looks := true }, kinds := [], alts := [], laidByText := true, laidKinds := [.data, .data, .data, .data, .sentinel, .sentinel, .pinned], laidTests := true, laidLooks := .later }
def TraceTotalsCardSaid : Prop := Claim7.holds Tryd.pinned (.plain (OpenSpec.ofChange traceTotalsSpec)) traceTotalsCard

/-- THE SECOND FORM's CARD OF 'hostlerlaw38.TraceTexts'. -/
def traceTextsUptoCard : Claim7 := { stood := { row := traceTextsUptoRow, standIns := [], harness := (true, "c0bc11ae2da77abb9b67ecd1912f50debd1255db923a09c0bad57a34bd9227df"), looks := true }, kinds := [], alts := [], laidByText := true, laidKinds := [.data, .data, .data, .data, .sentinel, .sentinel, .pinned], laidTests := true, laidLooks := .later }
def TraceTextsUptoCardSaid : Prop := Claim7.holds Tryd.pinned (.plain (OpenSpec.upto traceTextsSpec)) traceTextsUptoCard

/-- THE SECOND FORM's CARD OF 'hostlerlaw38.TraceTotals'. -/
def traceTotalsUptoCard : Claim7 := { stood := { row := traceTotalsUptoRow, standIns := [], harness := (true, "c0bc11ae2da77abb9b67ecd1912f50debd1255db923a09c0bad57a34bd9227df"), looks := true }, kinds := [], alts := [], laidByText := true, laidKinds := [.data, .data, .data, .data, .sentinel, .sentinel, .pinned], laidTests := true, laidLooks := .later }
def TraceTotalsUptoCardSaid : Prop := Claim7.holds Tryd.pinned (.plain (OpenSpec.upto traceTotalsSpec)) traceTotalsUptoCard
end Rows
end Go.Proofs.YtfaopoaephlenaaDoor
