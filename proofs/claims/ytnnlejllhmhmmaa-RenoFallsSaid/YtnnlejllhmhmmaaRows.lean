/-
  No cell of these rows narrows 'for every input' (looked for: loops, veiled, ifaces, maps, wideKeys, modest, calm, conditions, laid).
  DERIVED. THE GIVEN ROWS OF THIS SEAT. 5 by the template 'for every input the law returns true; each argument reads behind the call as it read before'; 0 by the template 'total and deterministic' (their statements: YtnnlejllhmhmmaaTotals.lean).
  GIVEN WITH THE SEED: the statements are not yours to turn. If you find one false, say at which input.
  Laid BY PROGRAM, IN A SANDBOX (cutbox-rows.mjs): the forced cells as the released guide's own fill.sh prints them over the translation 0a6342bce104640c… (all of the seat's roots in one cut). By AI agents, Wed Nov 11 2026. No macro, syntax, notation, axiom, sorry.
-/
import Derived.Test.YtnnlejllhmhmmaaChecked
import GoSem.Claim
import GoSem.ClaimJoined
import GoSem.ClaimMapViews
import Derived.JoinedTies
import Derived.KernelRfl
namespace Go.Proofs.Ytnnlejllhmhmmaa
/- THE CELL 'sum', in the pinned program and in every row, IS THE sha256 OF THE DUMP (.gsa) THAT YtnnlejllhmhmmaaProg.lean LOADS. Nothing in Lean hashes anything: it is a label: what it is worth is what the hold of that sum in a sandbox is worth. -/
noncomputable def Try.pinned : Pinned := { name := "ytnnlejllhmhmmaa", sum := "0a6342bce104640cbaca91bb93abcd2edb469b672db4f2ae40fc61d0af673a5b", checked := Try.checked }
namespace Rows
def none {H : Type} : Left H := { results := [], args := [] }

/-- 'hostlerlaw13.RttKnown': WHATEVER THE INPUT: true; the input reads as it did. -/
def rttKnownSpec : ChangeSpec := { name := "rttKnown", fn := fun _ => fun
  | [] => { results := [.lit (.bool true)], args := [] }
  | _ => none }
def rttKnownRow : OpenClaim := { program := "ytnnlejllhmhmmaa", sum := "0a6342bce104640cbaca91bb93abcd2edb469b672db4f2ae40fc61d0af673a5b", func := "hostler/hostlerlaw13.RttKnown", spec := "rttKnown", apart := false }
def RttKnownSaid : Prop := rttKnownRow.holds Try.pinned (OpenSpec.ofChange rttKnownSpec)

/-- ITS FALSE NEIGHBOUR: 'it returns false'. Refute it at one input. -/
def rttKnownWrong : ChangeSpec := { name := "rttKnown", fn := fun _ => fun
  | [] => { results := [.lit (.bool false)], args := [] }
  | _ => none }
def RttKnownWrongFalsely : Prop := rttKnownRow.holds Try.pinned (OpenSpec.ofChange rttKnownWrong)

/-- 'hostlerlaw13.RttBounds': WHATEVER THE INPUT: true; the input reads as it did. -/
def rttBoundsSpec : ChangeSpec := { name := "rttBounds", fn := fun _ => fun
  | [d1, d2, d3] => { results := [.lit (.bool true)], args := [d1, d2, d3] }
  | _ => none }
def rttBoundsRow : OpenClaim := { program := "ytnnlejllhmhmmaa", sum := "0a6342bce104640cbaca91bb93abcd2edb469b672db4f2ae40fc61d0af673a5b", func := "hostler/hostlerlaw13.RttBounds", spec := "rttBounds", apart := false }
def RttBoundsSaid : Prop := rttBoundsRow.holds Try.pinned (OpenSpec.ofChange rttBoundsSpec)

/-- ITS FALSE NEIGHBOUR: 'it returns false'. Refute it at one input. -/
def rttBoundsWrong : ChangeSpec := { name := "rttBounds", fn := fun _ => fun
  | [d1, d2, d3] => { results := [.lit (.bool false)], args := [d1, d2, d3] }
  | _ => none }
def RttBoundsWrongFalsely : Prop := rttBoundsRow.holds Try.pinned (OpenSpec.ofChange rttBoundsWrong)

/-- 'hostlerlaw13.RttSteady': WHATEVER THE INPUT: true; the input reads as it did. -/
def rttSteadySpec : ChangeSpec := { name := "rttSteady", fn := fun _ => fun
  | [d] => { results := [.lit (.bool true)], args := [d] }
  | _ => none }
def rttSteadyRow : OpenClaim := { program := "ytnnlejllhmhmmaa", sum := "0a6342bce104640cbaca91bb93abcd2edb469b672db4f2ae40fc61d0af673a5b", func := "hostler/hostlerlaw13.RttSteady", spec := "rttSteady", apart := false }
def RttSteadySaid : Prop := rttSteadyRow.holds Try.pinned (OpenSpec.ofChange rttSteadySpec)

/-- ITS FALSE NEIGHBOUR: 'it returns false'. Refute it at one input. -/
def rttSteadyWrong : ChangeSpec := { name := "rttSteady", fn := fun _ => fun
  | [d] => { results := [.lit (.bool false)], args := [d] }
  | _ => none }
def RttSteadyWrongFalsely : Prop := rttSteadyRow.holds Try.pinned (OpenSpec.ofChange rttSteadyWrong)

/-- 'hostlerlaw14.RenoFlight': WHATEVER THE INPUT: true; the input reads as it did. -/
def renoFlightSpec : ChangeSpec := { name := "renoFlight", fn := fun _ => fun
  | [d1, d2] => { results := [.lit (.bool true)], args := [d1, d2] }
  | _ => none }
def renoFlightRow : OpenClaim := { program := "ytnnlejllhmhmmaa", sum := "0a6342bce104640cbaca91bb93abcd2edb469b672db4f2ae40fc61d0af673a5b", func := "hostler/hostlerlaw14.RenoFlight", spec := "renoFlight", apart := false }
def RenoFlightSaid : Prop := renoFlightRow.holds Try.pinned (OpenSpec.ofChange renoFlightSpec)

/-- ITS FALSE NEIGHBOUR: 'it returns false'. Refute it at one input. -/
def renoFlightWrong : ChangeSpec := { name := "renoFlight", fn := fun _ => fun
  | [d1, d2] => { results := [.lit (.bool false)], args := [d1, d2] }
  | _ => none }
def RenoFlightWrongFalsely : Prop := renoFlightRow.holds Try.pinned (OpenSpec.ofChange renoFlightWrong)

/-- 'hostlerlaw14.RenoFalls': WHATEVER THE INPUT: true; the input reads as it did. -/
def renoFallsSpec : ChangeSpec := { name := "renoFalls", fn := fun _ => fun
  | [d] => { results := [.lit (.bool true)], args := [d] }
  | _ => none }
def renoFallsRow : OpenClaim := { program := "ytnnlejllhmhmmaa", sum := "0a6342bce104640cbaca91bb93abcd2edb469b672db4f2ae40fc61d0af673a5b", func := "hostler/hostlerlaw14.RenoFalls", spec := "renoFalls", apart := false }
def RenoFallsSaid : Prop := renoFallsRow.holds Try.pinned (OpenSpec.ofChange renoFallsSpec)

/-- ITS FALSE NEIGHBOUR: 'it returns false'. Refute it at one input. -/
def renoFallsWrong : ChangeSpec := { name := "renoFalls", fn := fun _ => fun
  | [d] => { results := [.lit (.bool false)], args := [d] }
  | _ => none }
def RenoFallsWrongFalsely : Prop := renoFallsRow.holds Try.pinned (OpenSpec.ofChange renoFallsWrong)

/- THE SECOND FORM. 'bulk': how many values and letters a reading holds, each counted each time it is reached (what is shared counts as often as it is met; a slice's spare places count too). A statement '..UptoSaid' is the law's where the arguments, and the package variables that the reading takes, are together of bulk at most 1048576: NARROWER than '..Said'. Prove '..Said' where nothing that the law and all that it calls make is longer than what came in: it says more and counts as full. Else prove '..UptoSaid'. A law counts once. -/
mutual
def uptoBulk {H : Type} : DataW H → Nat
  | .lit (.string bytes) => bytes.length + 1
  | .lit _ => 1
  | .nil => 1
  | .ptr d => uptoBulk d + 1
  | .slice elems spare => uptoBulkAll elems + uptoBulkAll spare + 1
  | .agg parts => uptoBulkAll parts + 1
  | .iface _ d => uptoBulk d + 1
  | .map entries => uptoBulkEntries entries + 1
  | .held _ => 1
def uptoBulkAll {H : Type} : List (DataW H) → Nat
  | [] => 0
  | d :: r => uptoBulk d + uptoBulkAll r
def uptoBulkEntries {H : Type} : List (Lit × DataW H) → Nat
  | [] => 0
  | x :: r => uptoBulkEntry x + uptoBulkEntries r
def uptoBulkEntry {H : Type} : Lit × DataW H → Nat
  | (.string bytes, d) => bytes.length + uptoBulk d + 1
  | (_, d) => uptoBulk d + 1
 end
def uptoSmall : (H : Type) → List (DataW H) → Bool := fun _ ds => decide (uptoBulkAll ds ≤ 1048576)
def OpenSpec.upto (s : _root_.Go.ChangeSpec) : _root_.Go.OpenSpec := { _root_.Go.OpenSpec.ofChange s with cond := some uptoSmall }

/-- 'hostlerlaw13.RttKnown', WHERE WHAT IT READS IS OF BULK AT MOST 1048576: true; the input reads as it did. -/
def rttKnownUptoRow : OpenClaim := { program := "ytnnlejllhmhmmaa", sum := "0a6342bce104640cbaca91bb93abcd2edb469b672db4f2ae40fc61d0af673a5b", func := "hostler/hostlerlaw13.RttKnown", spec := "rttKnown", apart := false, narrowed := true }
def RttKnownUptoSaid : Prop := rttKnownUptoRow.holds Try.pinned (OpenSpec.upto rttKnownSpec)

/-- 'hostlerlaw13.RttBounds', WHERE WHAT IT READS IS OF BULK AT MOST 1048576: true; the input reads as it did. -/
def rttBoundsUptoRow : OpenClaim := { program := "ytnnlejllhmhmmaa", sum := "0a6342bce104640cbaca91bb93abcd2edb469b672db4f2ae40fc61d0af673a5b", func := "hostler/hostlerlaw13.RttBounds", spec := "rttBounds", apart := false, narrowed := true }
def RttBoundsUptoSaid : Prop := rttBoundsUptoRow.holds Try.pinned (OpenSpec.upto rttBoundsSpec)

/-- 'hostlerlaw13.RttSteady', WHERE WHAT IT READS IS OF BULK AT MOST 1048576: true; the input reads as it did. -/
def rttSteadyUptoRow : OpenClaim := { program := "ytnnlejllhmhmmaa", sum := "0a6342bce104640cbaca91bb93abcd2edb469b672db4f2ae40fc61d0af673a5b", func := "hostler/hostlerlaw13.RttSteady", spec := "rttSteady", apart := false, narrowed := true }
def RttSteadyUptoSaid : Prop := rttSteadyUptoRow.holds Try.pinned (OpenSpec.upto rttSteadySpec)

/-- 'hostlerlaw14.RenoFlight', WHERE WHAT IT READS IS OF BULK AT MOST 1048576: true; the input reads as it did. -/
def renoFlightUptoRow : OpenClaim := { program := "ytnnlejllhmhmmaa", sum := "0a6342bce104640cbaca91bb93abcd2edb469b672db4f2ae40fc61d0af673a5b", func := "hostler/hostlerlaw14.RenoFlight", spec := "renoFlight", apart := false, narrowed := true }
def RenoFlightUptoSaid : Prop := renoFlightUptoRow.holds Try.pinned (OpenSpec.upto renoFlightSpec)

/-- 'hostlerlaw14.RenoFalls', WHERE WHAT IT READS IS OF BULK AT MOST 1048576: true; the input reads as it did. -/
def renoFallsUptoRow : OpenClaim := { program := "ytnnlejllhmhmmaa", sum := "0a6342bce104640cbaca91bb93abcd2edb469b672db4f2ae40fc61d0af673a5b", func := "hostler/hostlerlaw14.RenoFalls", spec := "renoFalls", apart := false, narrowed := true }
def RenoFallsUptoSaid : Prop := renoFallsUptoRow.holds Try.pinned (OpenSpec.upto renoFallsSpec)

end Rows
end Go.Proofs.Ytnnlejllhmhmmaa
