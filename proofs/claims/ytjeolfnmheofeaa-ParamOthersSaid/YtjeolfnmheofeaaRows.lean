/-
  No cell of these rows narrows 'for every input' (looked for: loops, veiled, ifaces, maps, wideKeys, modest, calm, conditions, laid).
  DERIVED. THE GIVEN ROWS OF THIS SEAT. 9 by the template 'for every input the law returns true; each argument reads behind the call as it read before'; 0 by the template 'total and deterministic' (their statements: YtjeolfnmheofeaaTotals.lean).
  GIVEN WITH THE SEED: the statements are not yours to turn. If you find one false, say at which input.
  Laid BY PROGRAM, IN A SANDBOX (cutbox-rows.mjs): the forced cells as the released guide's own fill.sh prints them over the translation d8692c19f388da08… (all of the seat's roots in one cut). By AI agents, Wed Nov 11 2026. No macro, syntax, notation, axiom, sorry.
-/
import Derived.Test.YtjeolfnmheofeaaChecked
import GoSem.Claim
import GoSem.ClaimJoined
import GoSem.ClaimMapViews
import Derived.JoinedTies
import Derived.KernelRfl
namespace Go.Proofs.Ytjeolfnmheofeaa
/- THE CELL 'sum', in the pinned program and in every row, IS THE sha256 OF THE DUMP (.gsa) THAT YtjeolfnmheofeaaProg.lean LOADS. Nothing in Lean hashes anything: it is a label: what it is worth is what the hold of that sum in a sandbox is worth. -/
noncomputable def Try.pinned : Pinned := { name := "ytjeolfnmheofeaa", sum := "d8692c19f388da0884d923d251b7e1b74393ef9127889cb6813d270e14a96dae", checked := Try.checked }
namespace Rows
def none {H : Type} : Left H := { results := [], args := [] }

/-- 'hostlerlaw01.VarintTakes': WHATEVER THE INPUT: true; the input reads as it did. -/
def varintTakesSpec : ChangeSpec := { name := "varintTakes", fn := fun _ => fun
  | [d] => { results := [.lit (.bool true)], args := [d] }
  | _ => none }
def varintTakesRow : OpenClaim := { program := "ytjeolfnmheofeaa", sum := "d8692c19f388da0884d923d251b7e1b74393ef9127889cb6813d270e14a96dae", func := "hostler/hostlerlaw01.VarintTakes", spec := "varintTakes", apart := false }
def VarintTakesSaid : Prop := varintTakesRow.holds Try.pinned (OpenSpec.ofChange varintTakesSpec)

/-- ITS FALSE NEIGHBOUR: 'it returns false'. Refute it at one input. -/
def varintTakesWrong : ChangeSpec := { name := "varintTakes", fn := fun _ => fun
  | [d] => { results := [.lit (.bool false)], args := [d] }
  | _ => none }
def VarintTakesWrongFalsely : Prop := varintTakesRow.holds Try.pinned (OpenSpec.ofChange varintTakesWrong)

/-- 'hostlerlaw01.VarintAppends': WHATEVER THE INPUT: true; the input reads as it did. -/
def varintAppendsSpec : ChangeSpec := { name := "varintAppends", fn := fun _ => fun
  | [d1, d2] => { results := [.lit (.bool true)], args := [d1, d2] }
  | _ => none }
def varintAppendsRow : OpenClaim := { program := "ytjeolfnmheofeaa", sum := "d8692c19f388da0884d923d251b7e1b74393ef9127889cb6813d270e14a96dae", func := "hostler/hostlerlaw01.VarintAppends", spec := "varintAppends", apart := false }
def VarintAppendsSaid : Prop := varintAppendsRow.holds Try.pinned (OpenSpec.ofChange varintAppendsSpec)

/-- ITS FALSE NEIGHBOUR: 'it returns false'. Refute it at one input. -/
def varintAppendsWrong : ChangeSpec := { name := "varintAppends", fn := fun _ => fun
  | [d1, d2] => { results := [.lit (.bool false)], args := [d1, d2] }
  | _ => none }
def VarintAppendsWrongFalsely : Prop := varintAppendsRow.holds Try.pinned (OpenSpec.ofChange varintAppendsWrong)

/-- 'hostlerlaw01.VarintBack': WHATEVER THE INPUT: true; the input reads as it did. -/
def varintBackSpec : ChangeSpec := { name := "varintBack", fn := fun _ => fun
  | [d1, d2] => { results := [.lit (.bool true)], args := [d1, d2] }
  | _ => none }
def varintBackRow : OpenClaim := { program := "ytjeolfnmheofeaa", sum := "d8692c19f388da0884d923d251b7e1b74393ef9127889cb6813d270e14a96dae", func := "hostler/hostlerlaw01.VarintBack", spec := "varintBack", apart := false }
def VarintBackSaid : Prop := varintBackRow.holds Try.pinned (OpenSpec.ofChange varintBackSpec)

/-- ITS FALSE NEIGHBOUR: 'it returns false'. Refute it at one input. -/
def varintBackWrong : ChangeSpec := { name := "varintBack", fn := fun _ => fun
  | [d1, d2] => { results := [.lit (.bool false)], args := [d1, d2] }
  | _ => none }
def VarintBackWrongFalsely : Prop := varintBackRow.holds Try.pinned (OpenSpec.ofChange varintBackWrong)

/-- 'hostlerlaw04.ParamAppends': WHATEVER THE INPUT: true; the input reads as it did. -/
def paramAppendsSpec : ChangeSpec := { name := "paramAppends", fn := fun _ => fun
  | [d1, d2] => { results := [.lit (.bool true)], args := [d1, d2] }
  | _ => none }
def paramAppendsRow : OpenClaim := { program := "ytjeolfnmheofeaa", sum := "d8692c19f388da0884d923d251b7e1b74393ef9127889cb6813d270e14a96dae", func := "hostler/hostlerlaw04.ParamAppends", spec := "paramAppends", unfollowed := true, recurses := true, apart := false }
def ParamAppendsSaid : Prop := paramAppendsRow.holds Try.pinned (OpenSpec.ofChange paramAppendsSpec)

/-- ITS FALSE NEIGHBOUR: 'it returns false'. Refute it at one input. -/
def paramAppendsWrong : ChangeSpec := { name := "paramAppends", fn := fun _ => fun
  | [d1, d2] => { results := [.lit (.bool false)], args := [d1, d2] }
  | _ => none }
def ParamAppendsWrongFalsely : Prop := paramAppendsRow.holds Try.pinned (OpenSpec.ofChange paramAppendsWrong)

/-- 'hostlerlaw04.ParamBack': WHATEVER THE INPUT: true; the input reads as it did. -/
def paramBackSpec : ChangeSpec := { name := "paramBack", fn := fun _ => fun
  | [d1, d2] => { results := [.lit (.bool true)], args := [d1, d2] }
  | _ => none }
def paramBackRow : OpenClaim := { program := "ytjeolfnmheofeaa", sum := "d8692c19f388da0884d923d251b7e1b74393ef9127889cb6813d270e14a96dae", func := "hostler/hostlerlaw04.ParamBack", spec := "paramBack", unfollowed := true, recurses := true, apart := false }
def ParamBackSaid : Prop := paramBackRow.holds Try.pinned (OpenSpec.ofChange paramBackSpec)

/-- ITS FALSE NEIGHBOUR: 'it returns false'. Refute it at one input. -/
def paramBackWrong : ChangeSpec := { name := "paramBack", fn := fun _ => fun
  | [d1, d2] => { results := [.lit (.bool false)], args := [d1, d2] }
  | _ => none }
def ParamBackWrongFalsely : Prop := paramBackRow.holds Try.pinned (OpenSpec.ofChange paramBackWrong)

/-- 'hostlerlaw04.ParamOthers': WHATEVER THE INPUT: true; the input reads as it did. -/
def paramOthersSpec : ChangeSpec := { name := "paramOthers", fn := fun _ => fun
  | [d1, d2, d3, d4] => { results := [.lit (.bool true)], args := [d1, d2, d3, d4] }
  | _ => none }
def paramOthersRow : OpenClaim := { program := "ytjeolfnmheofeaa", sum := "d8692c19f388da0884d923d251b7e1b74393ef9127889cb6813d270e14a96dae", func := "hostler/hostlerlaw04.ParamOthers", spec := "paramOthers", unfollowed := true, recurses := true, apart := false }
def ParamOthersSaid : Prop := paramOthersRow.holds Try.pinned (OpenSpec.ofChange paramOthersSpec)

/-- ITS FALSE NEIGHBOUR: 'it returns false'. Refute it at one input. -/
def paramOthersWrong : ChangeSpec := { name := "paramOthers", fn := fun _ => fun
  | [d1, d2, d3, d4] => { results := [.lit (.bool false)], args := [d1, d2, d3, d4] }
  | _ => none }
def ParamOthersWrongFalsely : Prop := paramOthersRow.holds Try.pinned (OpenSpec.ofChange paramOthersWrong)

/-- 'hostlerlaw02.FrameBack': WHATEVER THE INPUT: true; the input reads as it did. -/
def frameBackSpec : ChangeSpec := { name := "frameBack", fn := fun _ => fun
  | [d1, d2] => { results := [.lit (.bool true)], args := [d1, d2] }
  | _ => none }
def frameBackRow : OpenClaim := { program := "ytjeolfnmheofeaa", sum := "d8692c19f388da0884d923d251b7e1b74393ef9127889cb6813d270e14a96dae", func := "hostler/hostlerlaw02.FrameBack", spec := "frameBack", inPlace := ["internal/bytealg.MakeNoZero"], unfollowed := true, recurses := true, apart := false }
def FrameBackSaid : Prop := frameBackRow.holds Try.pinned (OpenSpec.ofChange frameBackSpec)

/-- ITS FALSE NEIGHBOUR: 'it returns false'. Refute it at one input. -/
def frameBackWrong : ChangeSpec := { name := "frameBack", fn := fun _ => fun
  | [d1, d2] => { results := [.lit (.bool false)], args := [d1, d2] }
  | _ => none }
def FrameBackWrongFalsely : Prop := frameBackRow.holds Try.pinned (OpenSpec.ofChange frameBackWrong)

/-- 'hostlerlaw02.FrameCut': WHATEVER THE INPUT: true; the input reads as it did. -/
def frameCutSpec : ChangeSpec := { name := "frameCut", fn := fun _ => fun
  | [d1, d2, d3] => { results := [.lit (.bool true)], args := [d1, d2, d3] }
  | _ => none }
def frameCutRow : OpenClaim := { program := "ytjeolfnmheofeaa", sum := "d8692c19f388da0884d923d251b7e1b74393ef9127889cb6813d270e14a96dae", func := "hostler/hostlerlaw02.FrameCut", spec := "frameCut", inPlace := ["internal/bytealg.MakeNoZero"], unfollowed := true, recurses := true, apart := false }
def FrameCutSaid : Prop := frameCutRow.holds Try.pinned (OpenSpec.ofChange frameCutSpec)

/-- ITS FALSE NEIGHBOUR: 'it returns false'. Refute it at one input. -/
def frameCutWrong : ChangeSpec := { name := "frameCut", fn := fun _ => fun
  | [d1, d2, d3] => { results := [.lit (.bool false)], args := [d1, d2, d3] }
  | _ => none }
def FrameCutWrongFalsely : Prop := frameCutRow.holds Try.pinned (OpenSpec.ofChange frameCutWrong)

/-- 'hostlerlaw02.FrameAppends': WHATEVER THE INPUT: true; the input reads as it did. -/
def frameAppendsSpec : ChangeSpec := { name := "frameAppends", fn := fun _ => fun
  | [d1, d2, d3, d4] => { results := [.lit (.bool true)], args := [d1, d2, d3, d4] }
  | _ => none }
def frameAppendsRow : OpenClaim := { program := "ytjeolfnmheofeaa", sum := "d8692c19f388da0884d923d251b7e1b74393ef9127889cb6813d270e14a96dae", func := "hostler/hostlerlaw02.FrameAppends", spec := "frameAppends", inPlace := ["internal/bytealg.MakeNoZero"], unfollowed := true, recurses := true, apart := false }
def FrameAppendsSaid : Prop := frameAppendsRow.holds Try.pinned (OpenSpec.ofChange frameAppendsSpec)

/-- ITS FALSE NEIGHBOUR: 'it returns false'. Refute it at one input. -/
def frameAppendsWrong : ChangeSpec := { name := "frameAppends", fn := fun _ => fun
  | [d1, d2, d3, d4] => { results := [.lit (.bool false)], args := [d1, d2, d3, d4] }
  | _ => none }
def FrameAppendsWrongFalsely : Prop := frameAppendsRow.holds Try.pinned (OpenSpec.ofChange frameAppendsWrong)

/- THE SECOND FORM. 'bulk': how many values and letters a reading holds, each counted each time it is reached (what is shared counts as often as it is met; a slice's spare places count too). A statement '..UptoSaid' is the law's where the arguments, and the package variables that the reading takes, are together of bulk at most 1048576: NARROWER than '..Said'. Prove '..Said' where nothing that the law and all that it calls make is longer than what came in: it says more and counts as full. Else prove '..UptoSaid'. A law counts once. -/
mutual
def uptoBulk {H : Type} : DataW H → Nat
  | .lit (.string bytes) => bytes.length + 1
  | .lit _ => 1
  | .nil => 1
  | .ptr d => uptoBulk d + 1
  | .slice elems spare => uptoBulkAll elems + uptoBulkAll spare + 1
  | .agg parts => uptoBulkAll parts + 1
  | .iface _ d => uptoBulk d + 1
  | .map entries => uptoBulkEntries entries + 1
  | .held _ => 1
def uptoBulkAll {H : Type} : List (DataW H) → Nat
  | [] => 0
  | d :: r => uptoBulk d + uptoBulkAll r
def uptoBulkEntries {H : Type} : List (Lit × DataW H) → Nat
  | [] => 0
  | x :: r => uptoBulkEntry x + uptoBulkEntries r
def uptoBulkEntry {H : Type} : Lit × DataW H → Nat
  | (.string bytes, d) => bytes.length + uptoBulk d + 1
  | (_, d) => uptoBulk d + 1
 end
def uptoSmall : (H : Type) → List (DataW H) → Bool := fun _ ds => decide (uptoBulkAll ds ≤ 1048576)
def OpenSpec.upto (s : _root_.Go.ChangeSpec) : _root_.Go.OpenSpec := { _root_.Go.OpenSpec.ofChange s with cond := some uptoSmall }

/-- 'hostlerlaw01.VarintTakes', WHERE WHAT IT READS IS OF BULK AT MOST 1048576: true; the input reads as it did. -/
def varintTakesUptoRow : OpenClaim := { program := "ytjeolfnmheofeaa", sum := "d8692c19f388da0884d923d251b7e1b74393ef9127889cb6813d270e14a96dae", func := "hostler/hostlerlaw01.VarintTakes", spec := "varintTakes", apart := false, narrowed := true }
def VarintTakesUptoSaid : Prop := varintTakesUptoRow.holds Try.pinned (OpenSpec.upto varintTakesSpec)

/-- 'hostlerlaw01.VarintAppends', WHERE WHAT IT READS IS OF BULK AT MOST 1048576: true; the input reads as it did. -/
def varintAppendsUptoRow : OpenClaim := { program := "ytjeolfnmheofeaa", sum := "d8692c19f388da0884d923d251b7e1b74393ef9127889cb6813d270e14a96dae", func := "hostler/hostlerlaw01.VarintAppends", spec := "varintAppends", apart := false, narrowed := true }
def VarintAppendsUptoSaid : Prop := varintAppendsUptoRow.holds Try.pinned (OpenSpec.upto varintAppendsSpec)

/-- 'hostlerlaw01.VarintBack', WHERE WHAT IT READS IS OF BULK AT MOST 1048576: true; the input reads as it did. -/
def varintBackUptoRow : OpenClaim := { program := "ytjeolfnmheofeaa", sum := "d8692c19f388da0884d923d251b7e1b74393ef9127889cb6813d270e14a96dae", func := "hostler/hostlerlaw01.VarintBack", spec := "varintBack", apart := false, narrowed := true }
def VarintBackUptoSaid : Prop := varintBackUptoRow.holds Try.pinned (OpenSpec.upto varintBackSpec)

/-- 'hostlerlaw04.ParamAppends', WHERE WHAT IT READS IS OF BULK AT MOST 1048576: true; the input reads as it did. -/
def paramAppendsUptoRow : OpenClaim := { program := "ytjeolfnmheofeaa", sum := "d8692c19f388da0884d923d251b7e1b74393ef9127889cb6813d270e14a96dae", func := "hostler/hostlerlaw04.ParamAppends", spec := "paramAppends", unfollowed := true, recurses := true, apart := false, narrowed := true }
def ParamAppendsUptoSaid : Prop := paramAppendsUptoRow.holds Try.pinned (OpenSpec.upto paramAppendsSpec)

/-- 'hostlerlaw04.ParamBack', WHERE WHAT IT READS IS OF BULK AT MOST 1048576: true; the input reads as it did. -/
def paramBackUptoRow : OpenClaim := { program := "ytjeolfnmheofeaa", sum := "d8692c19f388da0884d923d251b7e1b74393ef9127889cb6813d270e14a96dae", func := "hostler/hostlerlaw04.ParamBack", spec := "paramBack", unfollowed := true, recurses := true, apart := false, narrowed := true }
def ParamBackUptoSaid : Prop := paramBackUptoRow.holds Try.pinned (OpenSpec.upto paramBackSpec)

/-- 'hostlerlaw04.ParamOthers', WHERE WHAT IT READS IS OF BULK AT MOST 1048576: true; the input reads as it did. -/
def paramOthersUptoRow : OpenClaim := { program := "ytjeolfnmheofeaa", sum := "d8692c19f388da0884d923d251b7e1b74393ef9127889cb6813d270e14a96dae", func := "hostler/hostlerlaw04.ParamOthers", spec := "paramOthers", unfollowed := true, recurses := true, apart := false, narrowed := true }
def ParamOthersUptoSaid : Prop := paramOthersUptoRow.holds Try.pinned (OpenSpec.upto paramOthersSpec)

/-- 'hostlerlaw02.FrameBack', WHERE WHAT IT READS IS OF BULK AT MOST 1048576: true; the input reads as it did. -/
def frameBackUptoRow : OpenClaim := { program := "ytjeolfnmheofeaa", sum := "d8692c19f388da0884d923d251b7e1b74393ef9127889cb6813d270e14a96dae", func := "hostler/hostlerlaw02.FrameBack", spec := "frameBack", inPlace := ["internal/bytealg.MakeNoZero"], unfollowed := true, recurses := true, apart := false, narrowed := true }
def FrameBackUptoSaid : Prop := frameBackUptoRow.holds Try.pinned (OpenSpec.upto frameBackSpec)

/-- 'hostlerlaw02.FrameCut', WHERE WHAT IT READS IS OF BULK AT MOST 1048576: true; the input reads as it did. -/
def frameCutUptoRow : OpenClaim := { program := "ytjeolfnmheofeaa", sum := "d8692c19f388da0884d923d251b7e1b74393ef9127889cb6813d270e14a96dae", func := "hostler/hostlerlaw02.FrameCut", spec := "frameCut", inPlace := ["internal/bytealg.MakeNoZero"], unfollowed := true, recurses := true, apart := false, narrowed := true }
def FrameCutUptoSaid : Prop := frameCutUptoRow.holds Try.pinned (OpenSpec.upto frameCutSpec)

/-- 'hostlerlaw02.FrameAppends', WHERE WHAT IT READS IS OF BULK AT MOST 1048576: true; the input reads as it did. -/
def frameAppendsUptoRow : OpenClaim := { program := "ytjeolfnmheofeaa", sum := "d8692c19f388da0884d923d251b7e1b74393ef9127889cb6813d270e14a96dae", func := "hostler/hostlerlaw02.FrameAppends", spec := "frameAppends", inPlace := ["internal/bytealg.MakeNoZero"], unfollowed := true, recurses := true, apart := false, narrowed := true }
def FrameAppendsUptoSaid : Prop := frameAppendsUptoRow.holds Try.pinned (OpenSpec.upto frameAppendsSpec)

end Rows
end Go.Proofs.Ytjeolfnmheofeaa
