/-
  No cell of these rows narrows 'for every input' (looked for: loops, veiled, ifaces, maps, wideKeys, modest, calm, conditions, laid).
  DERIVED. THE GIVEN ROWS OF THIS SEAT. 5 by the template 'for every input the law returns true; each argument reads behind the call as it read before'; 0 by the template 'total and deterministic' (their statements: YticnjdlapioppaaTotals.lean).
  GIVEN WITH THE SEED: the statements are not yours to turn. If you find one false, say at which input.
  Laid BY PROGRAM, IN A SANDBOX (cutbox-rows.mjs): the forced cells as the released guide's own fill.sh prints them over the translation 505b01678360387b… (all of the seat's roots in one cut). By AI agents, Wed Nov 11 2026. No macro, syntax, notation, axiom, sorry.
-/
import Derived.Test.YticnjdlapioppaaChecked
import GoSem.Claim
import GoSem.ClaimJoined
import GoSem.ClaimMapViews
import Derived.JoinedTies
import Derived.KernelRfl
namespace Go.Proofs.Yticnjdlapioppaa
/- THE CELL 'sum', in the pinned program and in every row, IS THE sha256 OF THE DUMP (.gsa) THAT YticnjdlapioppaaProg.lean LOADS. Nothing in Lean hashes anything: it is a label: what it is worth is what the hold of that sum in a sandbox is worth. -/
noncomputable def Try.pinned : Pinned := { name := "yticnjdlapioppaa", sum := "505b01678360387bdd416791e27dcaa86391e4ddbfa668120758be7f213ddcb4", checked := Try.checked }
namespace Rows
def none {H : Type} : Left H := { results := [], args := [] }

/-- 'hostlerlaw18.FlowPair': WHATEVER THE INPUT: true; the input reads as it did. -/
def flowPairSpec : ChangeSpec := { name := "flowPair", fn := fun _ => fun
  | [d1, d2, d3] => { results := [.lit (.bool true)], args := [d1, d2, d3] }
  | _ => none }
def flowPairRow : OpenClaim := { program := "yticnjdlapioppaa", sum := "505b01678360387bdd416791e27dcaa86391e4ddbfa668120758be7f213ddcb4", func := "hostler/hostlerlaw18.FlowPair", spec := "flowPair", unfollowed := true, recurses := true, apart := false }
def FlowPairSaid : Prop := flowPairRow.holds Try.pinned (OpenSpec.ofChange flowPairSpec)

/-- ITS FALSE NEIGHBOUR: 'it returns false'. Refute it at one input. -/
def flowPairWrong : ChangeSpec := { name := "flowPair", fn := fun _ => fun
  | [d1, d2, d3] => { results := [.lit (.bool false)], args := [d1, d2, d3] }
  | _ => none }
def FlowPairWrongFalsely : Prop := flowPairRow.holds Try.pinned (OpenSpec.ofChange flowPairWrong)

/-- 'hostlerlaw18.FlowKnown': WHATEVER THE INPUT: true; the input reads as it did. -/
def flowKnownSpec : ChangeSpec := { name := "flowKnown", fn := fun _ => fun
  | [] => { results := [.lit (.bool true)], args := [] }
  | _ => none }
def flowKnownRow : OpenClaim := { program := "yticnjdlapioppaa", sum := "505b01678360387bdd416791e27dcaa86391e4ddbfa668120758be7f213ddcb4", func := "hostler/hostlerlaw18.FlowKnown", spec := "flowKnown", apart := false }
def FlowKnownSaid : Prop := flowKnownRow.holds Try.pinned (OpenSpec.ofChange flowKnownSpec)

/-- ITS FALSE NEIGHBOUR: 'it returns false'. Refute it at one input. -/
def flowKnownWrong : ChangeSpec := { name := "flowKnown", fn := fun _ => fun
  | [] => { results := [.lit (.bool false)], args := [] }
  | _ => none }
def FlowKnownWrongFalsely : Prop := flowKnownRow.holds Try.pinned (OpenSpec.ofChange flowKnownWrong)

/-- 'hostlerlaw22.ClockKnown': WHATEVER THE INPUT: true; the input reads as it did. -/
def clockKnownSpec : ChangeSpec := { name := "clockKnown", fn := fun _ => fun
  | [] => { results := [.lit (.bool true)], args := [] }
  | _ => none }
def clockKnownRow : OpenClaim := { program := "yticnjdlapioppaa", sum := "505b01678360387bdd416791e27dcaa86391e4ddbfa668120758be7f213ddcb4", func := "hostler/hostlerlaw22.ClockKnown", spec := "clockKnown", unfollowed := true, recurses := true, apart := false }
def ClockKnownSaid : Prop := clockKnownRow.holds Try.pinned (OpenSpec.ofChange clockKnownSpec)

/-- ITS FALSE NEIGHBOUR: 'it returns false'. Refute it at one input. -/
def clockKnownWrong : ChangeSpec := { name := "clockKnown", fn := fun _ => fun
  | [] => { results := [.lit (.bool false)], args := [] }
  | _ => none }
def ClockKnownWrongFalsely : Prop := clockKnownRow.holds Try.pinned (OpenSpec.ofChange clockKnownWrong)

/-- 'hostlerlaw17.InOrder': WHATEVER THE INPUT: true; the input reads as it did. -/
def inOrderSpec : ChangeSpec := { name := "inOrder", fn := fun _ => fun
  | [d1, d2, d3] => { results := [.lit (.bool true)], args := [d1, d2, d3] }
  | _ => none }
def inOrderRow : OpenClaim := { program := "yticnjdlapioppaa", sum := "505b01678360387bdd416791e27dcaa86391e4ddbfa668120758be7f213ddcb4", func := "hostler/hostlerlaw17.InOrder", spec := "inOrder", unfollowed := true, recurses := true, apart := false }
def InOrderSaid : Prop := inOrderRow.holds Try.pinned (OpenSpec.ofChange inOrderSpec)

/-- ITS FALSE NEIGHBOUR: 'it returns false'. Refute it at one input. -/
def inOrderWrong : ChangeSpec := { name := "inOrder", fn := fun _ => fun
  | [d1, d2, d3] => { results := [.lit (.bool false)], args := [d1, d2, d3] }
  | _ => none }
def InOrderWrongFalsely : Prop := inOrderRow.holds Try.pinned (OpenSpec.ofChange inOrderWrong)

/-- 'hostlerlaw17.InKnown': WHATEVER THE INPUT: true; the input reads as it did. -/
def inKnownSpec : ChangeSpec := { name := "inKnown", fn := fun _ => fun
  | [] => { results := [.lit (.bool true)], args := [] }
  | _ => none }
def inKnownRow : OpenClaim := { program := "yticnjdlapioppaa", sum := "505b01678360387bdd416791e27dcaa86391e4ddbfa668120758be7f213ddcb4", func := "hostler/hostlerlaw17.InKnown", spec := "inKnown", unfollowed := true, recurses := true, apart := false }
def InKnownSaid : Prop := inKnownRow.holds Try.pinned (OpenSpec.ofChange inKnownSpec)

/-- ITS FALSE NEIGHBOUR: 'it returns false'. Refute it at one input. -/
def inKnownWrong : ChangeSpec := { name := "inKnown", fn := fun _ => fun
  | [] => { results := [.lit (.bool false)], args := [] }
  | _ => none }
def InKnownWrongFalsely : Prop := inKnownRow.holds Try.pinned (OpenSpec.ofChange inKnownWrong)

/- THE SECOND FORM. 'bulk': how many values and letters a reading holds, each counted each time it is reached (what is shared counts as often as it is met; a slice's spare places count too). A statement '..UptoSaid' is the law's where the arguments, and the package variables that the reading takes, are together of bulk at most 1048576: NARROWER than '..Said'. Prove '..Said' where nothing that the law and all that it calls make is longer than what came in: it says more and counts as full. Else prove '..UptoSaid'. A law counts once. -/
mutual
def uptoBulk {H : Type} : DataW H → Nat
  | .lit (.string bytes) => bytes.length + 1
  | .lit _ => 1
  | .nil => 1
  | .ptr d => uptoBulk d + 1
  | .slice elems spare => uptoBulkAll elems + uptoBulkAll spare + 1
  | .agg parts => uptoBulkAll parts + 1
  | .iface _ d => uptoBulk d + 1
  | .map entries => uptoBulkEntries entries + 1
  | .held _ => 1
def uptoBulkAll {H : Type} : List (DataW H) → Nat
  | [] => 0
  | d :: r => uptoBulk d + uptoBulkAll r
def uptoBulkEntries {H : Type} : List (Lit × DataW H) → Nat
  | [] => 0
  | x :: r => uptoBulkEntry x + uptoBulkEntries r
def uptoBulkEntry {H : Type} : Lit × DataW H → Nat
  | (.string bytes, d) => bytes.length + uptoBulk d + 1
  | (_, d) => uptoBulk d + 1
 end
def uptoSmall : (H : Type) → List (DataW H) → Bool := fun _ ds => decide (uptoBulkAll ds ≤ 1048576)
def OpenSpec.upto (s : _root_.Go.ChangeSpec) : _root_.Go.OpenSpec := { _root_.Go.OpenSpec.ofChange s with cond := some uptoSmall }

/-- 'hostlerlaw18.FlowPair', WHERE WHAT IT READS IS OF BULK AT MOST 1048576: true; the input reads as it did. -/
def flowPairUptoRow : OpenClaim := { program := "yticnjdlapioppaa", sum := "505b01678360387bdd416791e27dcaa86391e4ddbfa668120758be7f213ddcb4", func := "hostler/hostlerlaw18.FlowPair", spec := "flowPair", unfollowed := true, recurses := true, apart := false, narrowed := true }
def FlowPairUptoSaid : Prop := flowPairUptoRow.holds Try.pinned (OpenSpec.upto flowPairSpec)

/-- 'hostlerlaw18.FlowKnown', WHERE WHAT IT READS IS OF BULK AT MOST 1048576: true; the input reads as it did. -/
def flowKnownUptoRow : OpenClaim := { program := "yticnjdlapioppaa", sum := "505b01678360387bdd416791e27dcaa86391e4ddbfa668120758be7f213ddcb4", func := "hostler/hostlerlaw18.FlowKnown", spec := "flowKnown", apart := false, narrowed := true }
def FlowKnownUptoSaid : Prop := flowKnownUptoRow.holds Try.pinned (OpenSpec.upto flowKnownSpec)

/-- 'hostlerlaw22.ClockKnown', WHERE WHAT IT READS IS OF BULK AT MOST 1048576: true; the input reads as it did. -/
def clockKnownUptoRow : OpenClaim := { program := "yticnjdlapioppaa", sum := "505b01678360387bdd416791e27dcaa86391e4ddbfa668120758be7f213ddcb4", func := "hostler/hostlerlaw22.ClockKnown", spec := "clockKnown", unfollowed := true, recurses := true, apart := false, narrowed := true }
def ClockKnownUptoSaid : Prop := clockKnownUptoRow.holds Try.pinned (OpenSpec.upto clockKnownSpec)

/-- 'hostlerlaw17.InOrder', WHERE WHAT IT READS IS OF BULK AT MOST 1048576: true; the input reads as it did. -/
def inOrderUptoRow : OpenClaim := { program := "yticnjdlapioppaa", sum := "505b01678360387bdd416791e27dcaa86391e4ddbfa668120758be7f213ddcb4", func := "hostler/hostlerlaw17.InOrder", spec := "inOrder", unfollowed := true, recurses := true, apart := false, narrowed := true }
def InOrderUptoSaid : Prop := inOrderUptoRow.holds Try.pinned (OpenSpec.upto inOrderSpec)

/-- 'hostlerlaw17.InKnown', WHERE WHAT IT READS IS OF BULK AT MOST 1048576: true; the input reads as it did. -/
def inKnownUptoRow : OpenClaim := { program := "yticnjdlapioppaa", sum := "505b01678360387bdd416791e27dcaa86391e4ddbfa668120758be7f213ddcb4", func := "hostler/hostlerlaw17.InKnown", spec := "inKnown", unfollowed := true, recurses := true, apart := false, narrowed := true }
def InKnownUptoSaid : Prop := inKnownUptoRow.holds Try.pinned (OpenSpec.upto inKnownSpec)

end Rows
end Go.Proofs.Yticnjdlapioppaa
