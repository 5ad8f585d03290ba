/-
  No cell of these rows narrows 'for every input' (looked for: loops, veiled, ifaces, maps, wideKeys, modest, calm, conditions, laid).
  DERIVED. THE GIVEN ROWS OF THIS SEAT. 5 by the template 'for every input the law returns true; each argument reads behind the call as it read before'; 0 by the template 'total and deterministic' (their statements: YtfnnhfghggfccaaTotals.lean).
  GIVEN WITH THE SEED: the statements are not yours to turn. If you find one false, say at which input.
  Laid BY PROGRAM, IN A SANDBOX (cutbox-rows.mjs): the forced cells as the released guide's own fill.sh prints them over the translation 447b02abcc421f96… (all of the seat's roots in one cut). By AI agents, Wed Nov 11 2026. No macro, syntax, notation, axiom, sorry.
-/
import Derived.Test.YtfnnhfghggfccaaChecked
import GoSem.Claim
import GoSem.ClaimJoined
import GoSem.ClaimMapViews
import Derived.JoinedTies
import Derived.KernelRfl
namespace Go.Proofs.Ytfnnhfghggfccaa
/- THE CELL 'sum', in the pinned program and in every row, IS THE sha256 OF THE DUMP (.gsa) THAT YtfnnhfghggfccaaProg.lean LOADS. Nothing in Lean hashes anything: it is a label: what it is worth is what the hold of that sum in a sandbox is worth. -/
noncomputable def Try.pinned : Pinned := { name := "ytfnnhfghggfccaa", sum := "447b02abcc421f965c97908088e670a9531b5b74e6f25425cd908914543c43c5", checked := Try.checked }
namespace Rows
def none {H : Type} : Left H := { results := [], args := [] }

/-- 'garrisonlaw18.HistSteps': WHATEVER THE INPUT: true; the input reads as it did. -/
def histStepsSpec : ChangeSpec := { name := "histSteps", fn := fun _ => fun
  | [d1, d2, d3] => { results := [.lit (.bool true)], args := [d1, d2, d3] }
  | _ => none }
def histStepsRow : OpenClaim := { program := "ytfnnhfghggfccaa", sum := "447b02abcc421f965c97908088e670a9531b5b74e6f25425cd908914543c43c5", func := "garrison/garrisonlaw18.HistSteps", spec := "histSteps", unfollowed := true, recurses := true, apart := false }
def HistStepsSaid : Prop := histStepsRow.holds Try.pinned (OpenSpec.ofChange histStepsSpec)

/-- ITS FALSE NEIGHBOUR: 'it returns false'. Refute it at one input. -/
def histStepsWrong : ChangeSpec := { name := "histSteps", fn := fun _ => fun
  | [d1, d2, d3] => { results := [.lit (.bool false)], args := [d1, d2, d3] }
  | _ => none }
def HistStepsWrongFalsely : Prop := histStepsRow.holds Try.pinned (OpenSpec.ofChange histStepsWrong)

/-- 'garrisonlaw18.HistRuns': WHATEVER THE INPUT: true; the input reads as it did. -/
def histRunsSpec : ChangeSpec := { name := "histRuns", fn := fun _ => fun
  | [d] => { results := [.lit (.bool true)], args := [d] }
  | _ => none }
def histRunsRow : OpenClaim := { program := "ytfnnhfghggfccaa", sum := "447b02abcc421f965c97908088e670a9531b5b74e6f25425cd908914543c43c5", func := "garrison/garrisonlaw18.HistRuns", spec := "histRuns", unfollowed := true, recurses := true, apart := false }
def HistRunsSaid : Prop := histRunsRow.holds Try.pinned (OpenSpec.ofChange histRunsSpec)

/-- ITS FALSE NEIGHBOUR: 'it returns false'. Refute it at one input. -/
def histRunsWrong : ChangeSpec := { name := "histRuns", fn := fun _ => fun
  | [d] => { results := [.lit (.bool false)], args := [d] }
  | _ => none }
def HistRunsWrongFalsely : Prop := histRunsRow.holds Try.pinned (OpenSpec.ofChange histRunsWrong)

/-- 'garrisonlaw18.HistOrder': WHATEVER THE INPUT: true; the input reads as it did. -/
def histOrderSpec : ChangeSpec := { name := "histOrder", fn := fun _ => fun
  | [d1, d2, d3, d4] => { results := [.lit (.bool true)], args := [d1, d2, d3, d4] }
  | _ => none }
def histOrderRow : OpenClaim := { program := "ytfnnhfghggfccaa", sum := "447b02abcc421f965c97908088e670a9531b5b74e6f25425cd908914543c43c5", func := "garrison/garrisonlaw18.HistOrder", spec := "histOrder", unfollowed := true, recurses := true, apart := false }
def HistOrderSaid : Prop := histOrderRow.holds Try.pinned (OpenSpec.ofChange histOrderSpec)

/-- ITS FALSE NEIGHBOUR: 'it returns false'. Refute it at one input. -/
def histOrderWrong : ChangeSpec := { name := "histOrder", fn := fun _ => fun
  | [d1, d2, d3, d4] => { results := [.lit (.bool false)], args := [d1, d2, d3, d4] }
  | _ => none }
def HistOrderWrongFalsely : Prop := histOrderRow.holds Try.pinned (OpenSpec.ofChange histOrderWrong)

/-- 'garrisonlaw18.HistOnce': WHATEVER THE INPUT: true; the input reads as it did. -/
def histOnceSpec : ChangeSpec := { name := "histOnce", fn := fun _ => fun
  | [d1, d2] => { results := [.lit (.bool true)], args := [d1, d2] }
  | _ => none }
def histOnceRow : OpenClaim := { program := "ytfnnhfghggfccaa", sum := "447b02abcc421f965c97908088e670a9531b5b74e6f25425cd908914543c43c5", func := "garrison/garrisonlaw18.HistOnce", spec := "histOnce", unfollowed := true, recurses := true, apart := false }
def HistOnceSaid : Prop := histOnceRow.holds Try.pinned (OpenSpec.ofChange histOnceSpec)

/-- ITS FALSE NEIGHBOUR: 'it returns false'. Refute it at one input. -/
def histOnceWrong : ChangeSpec := { name := "histOnce", fn := fun _ => fun
  | [d1, d2] => { results := [.lit (.bool false)], args := [d1, d2] }
  | _ => none }
def HistOnceWrongFalsely : Prop := histOnceRow.holds Try.pinned (OpenSpec.ofChange histOnceWrong)

/-- 'garrisonlaw18.HistSpans': WHATEVER THE INPUT: true; the input reads as it did. -/
def histSpansSpec : ChangeSpec := { name := "histSpans", fn := fun _ => fun
  | [d1, d2, d3, d4, d5, d6] => { results := [.lit (.bool true)], args := [d1, d2, d3, d4, d5, d6] }
  | _ => none }
def histSpansRow : OpenClaim := { program := "ytfnnhfghggfccaa", sum := "447b02abcc421f965c97908088e670a9531b5b74e6f25425cd908914543c43c5", func := "garrison/garrisonlaw18.HistSpans", spec := "histSpans", unfollowed := true, recurses := true, apart := false }
def HistSpansSaid : Prop := histSpansRow.holds Try.pinned (OpenSpec.ofChange histSpansSpec)

/-- ITS FALSE NEIGHBOUR: 'it returns false'. Refute it at one input. -/
def histSpansWrong : ChangeSpec := { name := "histSpans", fn := fun _ => fun
  | [d1, d2, d3, d4, d5, d6] => { results := [.lit (.bool false)], args := [d1, d2, d3, d4, d5, d6] }
  | _ => none }
def HistSpansWrongFalsely : Prop := histSpansRow.holds Try.pinned (OpenSpec.ofChange histSpansWrong)

/- THE SECOND FORM. 'bulk': how many values and letters a reading holds, each counted each time it is reached (what is shared counts as often as it is met; a slice's spare places count too). A statement '..UptoSaid' is the law's where the arguments, and the package variables that the reading takes, are together of bulk at most 1048576: NARROWER than '..Said'. Prove '..Said' where nothing that the law and all that it calls make is longer than what came in: it says more and counts as full. Else prove '..UptoSaid'. A law counts once. -/
mutual
def uptoBulk {H : Type} : DataW H → Nat
  | .lit (.string bytes) => bytes.length + 1
  | .lit _ => 1
  | .nil => 1
  | .ptr d => uptoBulk d + 1
  | .slice elems spare => uptoBulkAll elems + uptoBulkAll spare + 1
  | .agg parts => uptoBulkAll parts + 1
  | .iface _ d => uptoBulk d + 1
  | .map entries => uptoBulkEntries entries + 1
  | .held _ => 1
def uptoBulkAll {H : Type} : List (DataW H) → Nat
  | [] => 0
  | d :: r => uptoBulk d + uptoBulkAll r
def uptoBulkEntries {H : Type} : List (Lit × DataW H) → Nat
  | [] => 0
  | x :: r => uptoBulkEntry x + uptoBulkEntries r
def uptoBulkEntry {H : Type} : Lit × DataW H → Nat
  | (.string bytes, d) => bytes.length + uptoBulk d + 1
  | (_, d) => uptoBulk d + 1
 end
def uptoSmall : (H : Type) → List (DataW H) → Bool := fun _ ds => decide (uptoBulkAll ds ≤ 1048576)
def OpenSpec.upto (s : _root_.Go.ChangeSpec) : _root_.Go.OpenSpec := { _root_.Go.OpenSpec.ofChange s with cond := some uptoSmall }

/-- 'garrisonlaw18.HistSteps', WHERE WHAT IT READS IS OF BULK AT MOST 1048576: true; the input reads as it did. -/
def histStepsUptoRow : OpenClaim := { program := "ytfnnhfghggfccaa", sum := "447b02abcc421f965c97908088e670a9531b5b74e6f25425cd908914543c43c5", func := "garrison/garrisonlaw18.HistSteps", spec := "histSteps", unfollowed := true, recurses := true, apart := false, narrowed := true }
def HistStepsUptoSaid : Prop := histStepsUptoRow.holds Try.pinned (OpenSpec.upto histStepsSpec)

/-- 'garrisonlaw18.HistRuns', WHERE WHAT IT READS IS OF BULK AT MOST 1048576: true; the input reads as it did. -/
def histRunsUptoRow : OpenClaim := { program := "ytfnnhfghggfccaa", sum := "447b02abcc421f965c97908088e670a9531b5b74e6f25425cd908914543c43c5", func := "garrison/garrisonlaw18.HistRuns", spec := "histRuns", unfollowed := true, recurses := true, apart := false, narrowed := true }
def HistRunsUptoSaid : Prop := histRunsUptoRow.holds Try.pinned (OpenSpec.upto histRunsSpec)

/-- 'garrisonlaw18.HistOrder', WHERE WHAT IT READS IS OF BULK AT MOST 1048576: true; the input reads as it did. -/
def histOrderUptoRow : OpenClaim := { program := "ytfnnhfghggfccaa", sum := "447b02abcc421f965c97908088e670a9531b5b74e6f25425cd908914543c43c5", func := "garrison/garrisonlaw18.HistOrder", spec := "histOrder", unfollowed := true, recurses := true, apart := false, narrowed := true }
def HistOrderUptoSaid : Prop := histOrderUptoRow.holds Try.pinned (OpenSpec.upto histOrderSpec)

/-- 'garrisonlaw18.HistOnce', WHERE WHAT IT READS IS OF BULK AT MOST 1048576: true; the input reads as it did. -/
def histOnceUptoRow : OpenClaim := { program := "ytfnnhfghggfccaa", sum := "447b02abcc421f965c97908088e670a9531b5b74e6f25425cd908914543c43c5", func := "garrison/garrisonlaw18.HistOnce", spec := "histOnce", unfollowed := true, recurses := true, apart := false, narrowed := true }
def HistOnceUptoSaid : Prop := histOnceUptoRow.holds Try.pinned (OpenSpec.upto histOnceSpec)

/-- 'garrisonlaw18.HistSpans', WHERE WHAT IT READS IS OF BULK AT MOST 1048576: true; the input reads as it did. -/
def histSpansUptoRow : OpenClaim := { program := "ytfnnhfghggfccaa", sum := "447b02abcc421f965c97908088e670a9531b5b74e6f25425cd908914543c43c5", func := "garrison/garrisonlaw18.HistSpans", spec := "histSpans", unfollowed := true, recurses := true, apart := false, narrowed := true }
def HistSpansUptoSaid : Prop := histSpansUptoRow.holds Try.pinned (OpenSpec.upto histSpansSpec)

end Rows
end Go.Proofs.Ytfnnhfghggfccaa
