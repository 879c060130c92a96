/-
  No cell of these rows narrows 'for every input' (looked for: loops, veiled, ifaces, maps, wideKeys, modest, calm, conditions, laid).
  DERIVED. THE GIVEN ROWS OF THIS SEAT. 12 by the template 'for every input the law returns true; each argument reads behind the call as it read before'; 0 by the template 'total and deterministic' (their statements: YtidfimpchbkppaaTotals.lean).
  GIVEN WITH THE SEED: the statements are not yours to turn. If you find one false, say at which input.
  Laid BY PROGRAM, IN A SANDBOX (cutbox-rows.mjs): the forced cells as the released guide's own fill.sh prints them over the translation d07839f83babdcee… (all of the seat's roots in one cut). By AI agents, Wed Nov 11 2026. No macro, syntax, notation, axiom, sorry.
-/
import Derived.Test.YtidfimpchbkppaaChecked
import GoSem.Claim
import GoSem.ClaimJoined
import GoSem.ClaimMapViews
import Derived.JoinedTies
import Derived.KernelRfl
namespace Go.Proofs.Ytidfimpchbkppaa
/- THE CELL 'sum', in the pinned program and in every row, IS THE sha256 OF THE DUMP (.gsa) THAT YtidfimpchbkppaaProg.lean LOADS. Nothing in Lean hashes anything: it is a label: what it is worth is what the hold of that sum in a sandbox is worth. -/
noncomputable def Try.pinned : Pinned := { name := "ytidfimpchbkppaa", sum := "d07839f83babdceeef6add98167204b36e8e313e53e11e045fb120aab798aa24", checked := Try.checked }
namespace Rows
def none {H : Type} : Left H := { results := [], args := [] }

/-- 'hostlerlaw11.SpanMakes': WHATEVER THE INPUT: true; the input reads as it did. -/
def spanMakesSpec : ChangeSpec := { name := "spanMakes", fn := fun _ => fun
  | [d1, d2] => { results := [.lit (.bool true)], args := [d1, d2] }
  | _ => none }
def spanMakesRow : OpenClaim := { program := "ytidfimpchbkppaa", sum := "d07839f83babdceeef6add98167204b36e8e313e53e11e045fb120aab798aa24", func := "hostler/hostlerlaw11.SpanMakes", spec := "spanMakes", unfollowed := true, recurses := true, apart := false }
def SpanMakesSaid : Prop := spanMakesRow.holds Try.pinned (OpenSpec.ofChange spanMakesSpec)

/-- ITS FALSE NEIGHBOUR: 'it returns false'. Refute it at one input. -/
def spanMakesWrong : ChangeSpec := { name := "spanMakes", fn := fun _ => fun
  | [d1, d2] => { results := [.lit (.bool false)], args := [d1, d2] }
  | _ => none }
def SpanMakesWrongFalsely : Prop := spanMakesRow.holds Try.pinned (OpenSpec.ofChange spanMakesWrong)

/-- 'hostlerlaw11.SpanSets': WHATEVER THE INPUT: true; the input reads as it did. -/
def spanSetsSpec : ChangeSpec := { name := "spanSets", fn := fun _ => fun
  | [d1, d2] => { results := [.lit (.bool true)], args := [d1, d2] }
  | _ => none }
def spanSetsRow : OpenClaim := { program := "ytidfimpchbkppaa", sum := "d07839f83babdceeef6add98167204b36e8e313e53e11e045fb120aab798aa24", func := "hostler/hostlerlaw11.SpanSets", spec := "spanSets", unfollowed := true, recurses := true, apart := false }
def SpanSetsSaid : Prop := spanSetsRow.holds Try.pinned (OpenSpec.ofChange spanSetsSpec)

/-- ITS FALSE NEIGHBOUR: 'it returns false'. Refute it at one input. -/
def spanSetsWrong : ChangeSpec := { name := "spanSets", fn := fun _ => fun
  | [d1, d2] => { results := [.lit (.bool false)], args := [d1, d2] }
  | _ => none }
def SpanSetsWrongFalsely : Prop := spanSetsRow.holds Try.pinned (OpenSpec.ofChange spanSetsWrong)

/-- 'hostlerlaw11.SpanKeeps': WHATEVER THE INPUT: true; the input reads as it did. -/
def spanKeepsSpec : ChangeSpec := { name := "spanKeeps", fn := fun _ => fun
  | [d1, d2] => { results := [.lit (.bool true)], args := [d1, d2] }
  | _ => none }
def spanKeepsRow : OpenClaim := { program := "ytidfimpchbkppaa", sum := "d07839f83babdceeef6add98167204b36e8e313e53e11e045fb120aab798aa24", func := "hostler/hostlerlaw11.SpanKeeps", spec := "spanKeeps", unfollowed := true, recurses := true, apart := false }
def SpanKeepsSaid : Prop := spanKeepsRow.holds Try.pinned (OpenSpec.ofChange spanKeepsSpec)

/-- ITS FALSE NEIGHBOUR: 'it returns false'. Refute it at one input. -/
def spanKeepsWrong : ChangeSpec := { name := "spanKeeps", fn := fun _ => fun
  | [d1, d2] => { results := [.lit (.bool false)], args := [d1, d2] }
  | _ => none }
def SpanKeepsWrongFalsely : Prop := spanKeepsRow.holds Try.pinned (OpenSpec.ofChange spanKeepsWrong)

/-- 'hostlerlaw11.SpanAsks': WHATEVER THE INPUT: true; the input reads as it did. -/
def spanAsksSpec : ChangeSpec := { name := "spanAsks", fn := fun _ => fun
  | [d1, d2, d3] => { results := [.lit (.bool true)], args := [d1, d2, d3] }
  | _ => none }
def spanAsksRow : OpenClaim := { program := "ytidfimpchbkppaa", sum := "d07839f83babdceeef6add98167204b36e8e313e53e11e045fb120aab798aa24", func := "hostler/hostlerlaw11.SpanAsks", spec := "spanAsks", unfollowed := true, recurses := true, apart := false }
def SpanAsksSaid : Prop := spanAsksRow.holds Try.pinned (OpenSpec.ofChange spanAsksSpec)

/-- ITS FALSE NEIGHBOUR: 'it returns false'. Refute it at one input. -/
def spanAsksWrong : ChangeSpec := { name := "spanAsks", fn := fun _ => fun
  | [d1, d2, d3] => { results := [.lit (.bool false)], args := [d1, d2, d3] }
  | _ => none }
def SpanAsksWrongFalsely : Prop := spanAsksRow.holds Try.pinned (OpenSpec.ofChange spanAsksWrong)

/-- 'hostlerlaw11.SpanKnown': WHATEVER THE INPUT: true; the input reads as it did. -/
def spanKnownSpec : ChangeSpec := { name := "spanKnown", fn := fun _ => fun
  | [] => { results := [.lit (.bool true)], args := [] }
  | _ => none }
def spanKnownRow : OpenClaim := { program := "ytidfimpchbkppaa", sum := "d07839f83babdceeef6add98167204b36e8e313e53e11e045fb120aab798aa24", func := "hostler/hostlerlaw11.SpanKnown", spec := "spanKnown", unfollowed := true, recurses := true, apart := false }
def SpanKnownSaid : Prop := spanKnownRow.holds Try.pinned (OpenSpec.ofChange spanKnownSpec)

/-- ITS FALSE NEIGHBOUR: 'it returns false'. Refute it at one input. -/
def spanKnownWrong : ChangeSpec := { name := "spanKnown", fn := fun _ => fun
  | [] => { results := [.lit (.bool false)], args := [] }
  | _ => none }
def SpanKnownWrongFalsely : Prop := spanKnownRow.holds Try.pinned (OpenSpec.ofChange spanKnownWrong)

/-- 'hostlerlaw12.HeardKnown': WHATEVER THE INPUT: true; the input reads as it did. -/
def heardKnownSpec : ChangeSpec := { name := "heardKnown", fn := fun _ => fun
  | [] => { results := [.lit (.bool true)], args := [] }
  | _ => none }
def heardKnownRow : OpenClaim := { program := "ytidfimpchbkppaa", sum := "d07839f83babdceeef6add98167204b36e8e313e53e11e045fb120aab798aa24", func := "hostler/hostlerlaw12.HeardKnown", spec := "heardKnown", unfollowed := true, recurses := true, apart := false }
def HeardKnownSaid : Prop := heardKnownRow.holds Try.pinned (OpenSpec.ofChange heardKnownSpec)

/-- ITS FALSE NEIGHBOUR: 'it returns false'. Refute it at one input. -/
def heardKnownWrong : ChangeSpec := { name := "heardKnown", fn := fun _ => fun
  | [] => { results := [.lit (.bool false)], args := [] }
  | _ => none }
def HeardKnownWrongFalsely : Prop := heardKnownRow.holds Try.pinned (OpenSpec.ofChange heardKnownWrong)

/-- 'hostlerlaw12.HeardOnce': WHATEVER THE INPUT: true; the input reads as it did. -/
def heardOnceSpec : ChangeSpec := { name := "heardOnce", fn := fun _ => fun
  | [d] => { results := [.lit (.bool true)], args := [d] }
  | _ => none }
def heardOnceRow : OpenClaim := { program := "ytidfimpchbkppaa", sum := "d07839f83babdceeef6add98167204b36e8e313e53e11e045fb120aab798aa24", func := "hostler/hostlerlaw12.HeardOnce", spec := "heardOnce", unfollowed := true, recurses := true, apart := false }
def HeardOnceSaid : Prop := heardOnceRow.holds Try.pinned (OpenSpec.ofChange heardOnceSpec)

/-- ITS FALSE NEIGHBOUR: 'it returns false'. Refute it at one input. -/
def heardOnceWrong : ChangeSpec := { name := "heardOnce", fn := fun _ => fun
  | [d] => { results := [.lit (.bool false)], args := [d] }
  | _ => none }
def HeardOnceWrongFalsely : Prop := heardOnceRow.holds Try.pinned (OpenSpec.ofChange heardOnceWrong)

/-- 'hostlerlaw15.SentOnce': WHATEVER THE INPUT: true; the input reads as it did. -/
def sentOnceSpec : ChangeSpec := { name := "sentOnce", fn := fun _ => fun
  | [d] => { results := [.lit (.bool true)], args := [d] }
  | _ => none }
def sentOnceRow : OpenClaim := { program := "ytidfimpchbkppaa", sum := "d07839f83babdceeef6add98167204b36e8e313e53e11e045fb120aab798aa24", func := "hostler/hostlerlaw15.SentOnce", spec := "sentOnce", unfollowed := true, recurses := true, apart := false }
def SentOnceSaid : Prop := sentOnceRow.holds Try.pinned (OpenSpec.ofChange sentOnceSpec)

/-- ITS FALSE NEIGHBOUR: 'it returns false'. Refute it at one input. -/
def sentOnceWrong : ChangeSpec := { name := "sentOnce", fn := fun _ => fun
  | [d] => { results := [.lit (.bool false)], args := [d] }
  | _ => none }
def SentOnceWrongFalsely : Prop := sentOnceRow.holds Try.pinned (OpenSpec.ofChange sentOnceWrong)

/-- 'hostlerlaw15.SentKnown': WHATEVER THE INPUT: true; the input reads as it did. -/
def sentKnownSpec : ChangeSpec := { name := "sentKnown", fn := fun _ => fun
  | [] => { results := [.lit (.bool true)], args := [] }
  | _ => none }
def sentKnownRow : OpenClaim := { program := "ytidfimpchbkppaa", sum := "d07839f83babdceeef6add98167204b36e8e313e53e11e045fb120aab798aa24", func := "hostler/hostlerlaw15.SentKnown", spec := "sentKnown", unfollowed := true, recurses := true, apart := false }
def SentKnownSaid : Prop := sentKnownRow.holds Try.pinned (OpenSpec.ofChange sentKnownSpec)

/-- ITS FALSE NEIGHBOUR: 'it returns false'. Refute it at one input. -/
def sentKnownWrong : ChangeSpec := { name := "sentKnown", fn := fun _ => fun
  | [] => { results := [.lit (.bool false)], args := [] }
  | _ => none }
def SentKnownWrongFalsely : Prop := sentKnownRow.holds Try.pinned (OpenSpec.ofChange sentKnownWrong)

/-- 'hostlerlaw15.SentPlays': WHATEVER THE INPUT: true; the input reads as it did. -/
def sentPlaysSpec : ChangeSpec := { name := "sentPlays", fn := fun _ => fun
  | [d] => { results := [.lit (.bool true)], args := [d] }
  | _ => none }
def sentPlaysRow : OpenClaim := { program := "ytidfimpchbkppaa", sum := "d07839f83babdceeef6add98167204b36e8e313e53e11e045fb120aab798aa24", func := "hostler/hostlerlaw15.SentPlays", spec := "sentPlays", unfollowed := true, recurses := true, apart := false }
def SentPlaysSaid : Prop := sentPlaysRow.holds Try.pinned (OpenSpec.ofChange sentPlaysSpec)

/-- ITS FALSE NEIGHBOUR: 'it returns false'. Refute it at one input. -/
def sentPlaysWrong : ChangeSpec := { name := "sentPlays", fn := fun _ => fun
  | [d] => { results := [.lit (.bool false)], args := [d] }
  | _ => none }
def SentPlaysWrongFalsely : Prop := sentPlaysRow.holds Try.pinned (OpenSpec.ofChange sentPlaysWrong)

/-- 'hostlerlaw16.OutGoes': WHATEVER THE INPUT: true; the input reads as it did. -/
def outGoesSpec : ChangeSpec := { name := "outGoes", fn := fun _ => fun
  | [d1, d2, d3, d4, d5] => { results := [.lit (.bool true)], args := [d1, d2, d3, d4, d5] }
  | _ => none }
def outGoesRow : OpenClaim := { program := "ytidfimpchbkppaa", sum := "d07839f83babdceeef6add98167204b36e8e313e53e11e045fb120aab798aa24", func := "hostler/hostlerlaw16.OutGoes", spec := "outGoes", unfollowed := true, recurses := true, apart := false }
def OutGoesSaid : Prop := outGoesRow.holds Try.pinned (OpenSpec.ofChange outGoesSpec)

/-- ITS FALSE NEIGHBOUR: 'it returns false'. Refute it at one input. -/
def outGoesWrong : ChangeSpec := { name := "outGoes", fn := fun _ => fun
  | [d1, d2, d3, d4, d5] => { results := [.lit (.bool false)], args := [d1, d2, d3, d4, d5] }
  | _ => none }
def OutGoesWrongFalsely : Prop := outGoesRow.holds Try.pinned (OpenSpec.ofChange outGoesWrong)

/-- 'hostlerlaw16.OutKnown': WHATEVER THE INPUT: true; the input reads as it did. -/
def outKnownSpec : ChangeSpec := { name := "outKnown", fn := fun _ => fun
  | [] => { results := [.lit (.bool true)], args := [] }
  | _ => none }
def outKnownRow : OpenClaim := { program := "ytidfimpchbkppaa", sum := "d07839f83babdceeef6add98167204b36e8e313e53e11e045fb120aab798aa24", func := "hostler/hostlerlaw16.OutKnown", spec := "outKnown", unfollowed := true, recurses := true, apart := false }
def OutKnownSaid : Prop := outKnownRow.holds Try.pinned (OpenSpec.ofChange outKnownSpec)

/-- ITS FALSE NEIGHBOUR: 'it returns false'. Refute it at one input. -/
def outKnownWrong : ChangeSpec := { name := "outKnown", fn := fun _ => fun
  | [] => { results := [.lit (.bool false)], args := [] }
  | _ => none }
def OutKnownWrongFalsely : Prop := outKnownRow.holds Try.pinned (OpenSpec.ofChange outKnownWrong)

/- THE SECOND FORM. 'bulk': how many values and letters a reading holds, each counted each time it is reached (what is shared counts as often as it is met; a slice's spare places count too). A statement '..UptoSaid' is the law's where the arguments, and the package variables that the reading takes, are together of bulk at most 1048576: NARROWER than '..Said'. Prove '..Said' where nothing that the law and all that it calls make is longer than what came in: it says more and counts as full. Else prove '..UptoSaid'. A law counts once. -/
mutual
def uptoBulk {H : Type} : DataW H → Nat
  | .lit (.string bytes) => bytes.length + 1
  | .lit _ => 1
  | .nil => 1
  | .ptr d => uptoBulk d + 1
  | .slice elems spare => uptoBulkAll elems + uptoBulkAll spare + 1
  | .agg parts => uptoBulkAll parts + 1
  | .iface _ d => uptoBulk d + 1
  | .map entries => uptoBulkEntries entries + 1
  | .held _ => 1
def uptoBulkAll {H : Type} : List (DataW H) → Nat
  | [] => 0
  | d :: r => uptoBulk d + uptoBulkAll r
def uptoBulkEntries {H : Type} : List (Lit × DataW H) → Nat
  | [] => 0
  | x :: r => uptoBulkEntry x + uptoBulkEntries r
def uptoBulkEntry {H : Type} : Lit × DataW H → Nat
  | (.string bytes, d) => bytes.length + uptoBulk d + 1
  | (_, d) => uptoBulk d + 1
 end
def uptoSmall : (H : Type) → List (DataW H) → Bool := fun _ ds => decide (uptoBulkAll ds ≤ 1048576)
def OpenSpec.upto (s : _root_.Go.ChangeSpec) : _root_.Go.OpenSpec := { _root_.Go.OpenSpec.ofChange s with cond := some uptoSmall }

/-- 'hostlerlaw11.SpanMakes', WHERE WHAT IT READS IS OF BULK AT MOST 1048576: true; the input reads as it did. -/
def spanMakesUptoRow : OpenClaim := { program := "ytidfimpchbkppaa", sum := "d07839f83babdceeef6add98167204b36e8e313e53e11e045fb120aab798aa24", func := "hostler/hostlerlaw11.SpanMakes", spec := "spanMakes", unfollowed := true, recurses := true, apart := false, narrowed := true }
def SpanMakesUptoSaid : Prop := spanMakesUptoRow.holds Try.pinned (OpenSpec.upto spanMakesSpec)

/-- 'hostlerlaw11.SpanSets', WHERE WHAT IT READS IS OF BULK AT MOST 1048576: true; the input reads as it did. -/
def spanSetsUptoRow : OpenClaim := { program := "ytidfimpchbkppaa", sum := "d07839f83babdceeef6add98167204b36e8e313e53e11e045fb120aab798aa24", func := "hostler/hostlerlaw11.SpanSets", spec := "spanSets", unfollowed := true, recurses := true, apart := false, narrowed := true }
def SpanSetsUptoSaid : Prop := spanSetsUptoRow.holds Try.pinned (OpenSpec.upto spanSetsSpec)

/-- 'hostlerlaw11.SpanKeeps', WHERE WHAT IT READS IS OF BULK AT MOST 1048576: true; the input reads as it did. -/
def spanKeepsUptoRow : OpenClaim := { program := "ytidfimpchbkppaa", sum := "d07839f83babdceeef6add98167204b36e8e313e53e11e045fb120aab798aa24", func := "hostler/hostlerlaw11.SpanKeeps", spec := "spanKeeps", unfollowed := true, recurses := true, apart := false, narrowed := true }
def SpanKeepsUptoSaid : Prop := spanKeepsUptoRow.holds Try.pinned (OpenSpec.upto spanKeepsSpec)

/-- 'hostlerlaw11.SpanAsks', WHERE WHAT IT READS IS OF BULK AT MOST 1048576: true; the input reads as it did. -/
def spanAsksUptoRow : OpenClaim := { program := "ytidfimpchbkppaa", sum := "d07839f83babdceeef6add98167204b36e8e313e53e11e045fb120aab798aa24", func := "hostler/hostlerlaw11.SpanAsks", spec := "spanAsks", unfollowed := true, recurses := true, apart := false, narrowed := true }
def SpanAsksUptoSaid : Prop := spanAsksUptoRow.holds Try.pinned (OpenSpec.upto spanAsksSpec)

/-- 'hostlerlaw11.SpanKnown', WHERE WHAT IT READS IS OF BULK AT MOST 1048576: true; the input reads as it did. -/
def spanKnownUptoRow : OpenClaim := { program := "ytidfimpchbkppaa", sum := "d07839f83babdceeef6add98167204b36e8e313e53e11e045fb120aab798aa24", func := "hostler/hostlerlaw11.SpanKnown", spec := "spanKnown", unfollowed := true, recurses := true, apart := false, narrowed := true }
def SpanKnownUptoSaid : Prop := spanKnownUptoRow.holds Try.pinned (OpenSpec.upto spanKnownSpec)

/-- 'hostlerlaw12.HeardKnown', WHERE WHAT IT READS IS OF BULK AT MOST 1048576: true; the input reads as it did. -/
def heardKnownUptoRow : OpenClaim := { program := "ytidfimpchbkppaa", sum := "d07839f83babdceeef6add98167204b36e8e313e53e11e045fb120aab798aa24", func := "hostler/hostlerlaw12.HeardKnown", spec := "heardKnown", unfollowed := true, recurses := true, apart := false, narrowed := true }
def HeardKnownUptoSaid : Prop := heardKnownUptoRow.holds Try.pinned (OpenSpec.upto heardKnownSpec)

/-- 'hostlerlaw12.HeardOnce', WHERE WHAT IT READS IS OF BULK AT MOST 1048576: true; the input reads as it did. -/
def heardOnceUptoRow : OpenClaim := { program := "ytidfimpchbkppaa", sum := "d07839f83babdceeef6add98167204b36e8e313e53e11e045fb120aab798aa24", func := "hostler/hostlerlaw12.HeardOnce", spec := "heardOnce", unfollowed := true, recurses := true, apart := false, narrowed := true }
def HeardOnceUptoSaid : Prop := heardOnceUptoRow.holds Try.pinned (OpenSpec.upto heardOnceSpec)

/-- 'hostlerlaw15.SentOnce', WHERE WHAT IT READS IS OF BULK AT MOST 1048576: true; the input reads as it did. -/
def sentOnceUptoRow : OpenClaim := { program := "ytidfimpchbkppaa", sum := "d07839f83babdceeef6add98167204b36e8e313e53e11e045fb120aab798aa24", func := "hostler/hostlerlaw15.SentOnce", spec := "sentOnce", unfollowed := true, recurses := true, apart := false, narrowed := true }
def SentOnceUptoSaid : Prop := sentOnceUptoRow.holds Try.pinned (OpenSpec.upto sentOnceSpec)

/-- 'hostlerlaw15.SentKnown', WHERE WHAT IT READS IS OF BULK AT MOST 1048576: true; the input reads as it did. -/
def sentKnownUptoRow : OpenClaim := { program := "ytidfimpchbkppaa", sum := "d07839f83babdceeef6add98167204b36e8e313e53e11e045fb120aab798aa24", func := "hostler/hostlerlaw15.SentKnown", spec := "sentKnown", unfollowed := true, recurses := true, apart := false, narrowed := true }
def SentKnownUptoSaid : Prop := sentKnownUptoRow.holds Try.pinned (OpenSpec.upto sentKnownSpec)

/-- 'hostlerlaw15.SentPlays', WHERE WHAT IT READS IS OF BULK AT MOST 1048576: true; the input reads as it did. -/
def sentPlaysUptoRow : OpenClaim := { program := "ytidfimpchbkppaa", sum := "d07839f83babdceeef6add98167204b36e8e313e53e11e045fb120aab798aa24", func := "hostler/hostlerlaw15.SentPlays", spec := "sentPlays", unfollowed := true, recurses := true, apart := false, narrowed := true }
def SentPlaysUptoSaid : Prop := sentPlaysUptoRow.holds Try.pinned (OpenSpec.upto sentPlaysSpec)

/-- 'hostlerlaw16.OutGoes', WHERE WHAT IT READS IS OF BULK AT MOST 1048576: true; the input reads as it did. -/
def outGoesUptoRow : OpenClaim := { program := "ytidfimpchbkppaa", sum := "d07839f83babdceeef6add98167204b36e8e313e53e11e045fb120aab798aa24", func := "hostler/hostlerlaw16.OutGoes", spec := "outGoes", unfollowed := true, recurses := true, apart := false, narrowed := true }
def OutGoesUptoSaid : Prop := outGoesUptoRow.holds Try.pinned (OpenSpec.upto outGoesSpec)

/-- 'hostlerlaw16.OutKnown', WHERE WHAT IT READS IS OF BULK AT MOST 1048576: true; the input reads as it did. -/
def outKnownUptoRow : OpenClaim := { program := "ytidfimpchbkppaa", sum := "d07839f83babdceeef6add98167204b36e8e313e53e11e045fb120aab798aa24", func := "hostler/hostlerlaw16.OutKnown", spec := "outKnown", unfollowed := true, recurses := true, apart := false, narrowed := true }
def OutKnownUptoSaid : Prop := outKnownUptoRow.holds Try.pinned (OpenSpec.upto outKnownSpec)

end Rows
end Go.Proofs.Ytidfimpchbkppaa
