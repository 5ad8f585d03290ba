/-
  No cell of these rows narrows 'for every input' (looked for: loops, veiled, ifaces, maps, wideKeys, modest, calm, conditions, laid).
  DERIVED. THE GIVEN ROWS OF THIS SEAT. 7 by the template 'for every input the law returns true; each argument reads behind the call as it read before'; 0 by the template 'total and deterministic' (their statements: YtljhobohpnpedaaTotals.lean).
  GIVEN WITH THE SEED: the statements are not yours to turn. If you find one false, say at which input.
  Laid BY PROGRAM, IN A SANDBOX (cutbox-rows.mjs): the forced cells as the released guide's own fill.sh prints them over the translation 59b1eaef4eb31c0d… (all of the seat's roots in one cut). By AI agents, Wed Nov 11 2026. No macro, syntax, notation, axiom, sorry.
-/
import Derived.Test.YtljhobohpnpedaaChecked
import GoSem.Claim
import GoSem.ClaimJoined
import GoSem.ClaimMapViews
import Derived.JoinedTies
import Derived.KernelRfl
namespace Go.Proofs.Ytljhobohpnpedaa
/- THE CELL 'sum', in the pinned program and in every row, IS THE sha256 OF THE DUMP (.gsa) THAT YtljhobohpnpedaaProg.lean LOADS. Nothing in Lean hashes anything: it is a label: what it is worth is what the hold of that sum in a sandbox is worth. -/
noncomputable def Try.pinned : Pinned := { name := "ytljhobohpnpedaa", sum := "59b1eaef4eb31c0da268f73e6e7c974199f07bf4705fda2f42a9a90957cf495d", checked := Try.checked }
namespace Rows
def none {H : Type} : Left H := { results := [], args := [] }

/-- 'garrisonlaw11.EpochSteps': WHATEVER THE INPUT: true; the input reads as it did. -/
def epochStepsSpec : ChangeSpec := { name := "epochSteps", fn := fun _ => fun
  | [d1, d2, d3, d4] => { results := [.lit (.bool true)], args := [d1, d2, d3, d4] }
  | _ => none }
def epochStepsRow : OpenClaim := { program := "ytljhobohpnpedaa", sum := "59b1eaef4eb31c0da268f73e6e7c974199f07bf4705fda2f42a9a90957cf495d", func := "garrison/garrisonlaw11.EpochSteps", spec := "epochSteps", unfollowed := true, recurses := true, apart := false }
def EpochStepsSaid : Prop := epochStepsRow.holds Try.pinned (OpenSpec.ofChange epochStepsSpec)

/-- ITS FALSE NEIGHBOUR: 'it returns false'. Refute it at one input. -/
def epochStepsWrong : ChangeSpec := { name := "epochSteps", fn := fun _ => fun
  | [d1, d2, d3, d4] => { results := [.lit (.bool false)], args := [d1, d2, d3, d4] }
  | _ => none }
def EpochStepsWrongFalsely : Prop := epochStepsRow.holds Try.pinned (OpenSpec.ofChange epochStepsWrong)

/-- 'garrisonlaw11.EpochRuns': WHATEVER THE INPUT: true; the input reads as it did. -/
def epochRunsSpec : ChangeSpec := { name := "epochRuns", fn := fun _ => fun
  | [d1, d2] => { results := [.lit (.bool true)], args := [d1, d2] }
  | _ => none }
def epochRunsRow : OpenClaim := { program := "ytljhobohpnpedaa", sum := "59b1eaef4eb31c0da268f73e6e7c974199f07bf4705fda2f42a9a90957cf495d", func := "garrison/garrisonlaw11.EpochRuns", spec := "epochRuns", unfollowed := true, recurses := true, apart := false }
def EpochRunsSaid : Prop := epochRunsRow.holds Try.pinned (OpenSpec.ofChange epochRunsSpec)

/-- ITS FALSE NEIGHBOUR: 'it returns false'. Refute it at one input. -/
def epochRunsWrong : ChangeSpec := { name := "epochRuns", fn := fun _ => fun
  | [d1, d2] => { results := [.lit (.bool false)], args := [d1, d2] }
  | _ => none }
def EpochRunsWrongFalsely : Prop := epochRunsRow.holds Try.pinned (OpenSpec.ofChange epochRunsWrong)

/-- 'garrisonlaw11.EpochSafe': WHATEVER THE INPUT: true; the input reads as it did. -/
def epochSafeSpec : ChangeSpec := { name := "epochSafe", fn := fun _ => fun
  | [d1, d2] => { results := [.lit (.bool true)], args := [d1, d2] }
  | _ => none }
def epochSafeRow : OpenClaim := { program := "ytljhobohpnpedaa", sum := "59b1eaef4eb31c0da268f73e6e7c974199f07bf4705fda2f42a9a90957cf495d", func := "garrison/garrisonlaw11.EpochSafe", spec := "epochSafe", unfollowed := true, recurses := true, apart := false }
def EpochSafeSaid : Prop := epochSafeRow.holds Try.pinned (OpenSpec.ofChange epochSafeSpec)

/-- ITS FALSE NEIGHBOUR: 'it returns false'. Refute it at one input. -/
def epochSafeWrong : ChangeSpec := { name := "epochSafe", fn := fun _ => fun
  | [d1, d2] => { results := [.lit (.bool false)], args := [d1, d2] }
  | _ => none }
def EpochSafeWrongFalsely : Prop := epochSafeRow.holds Try.pinned (OpenSpec.ofChange epochSafeWrong)

/-- 'garrisonlaw11.EpochGoes': WHATEVER THE INPUT: true; the input reads as it did. -/
def epochGoesSpec : ChangeSpec := { name := "epochGoes", fn := fun _ => fun
  | [d1, d2] => { results := [.lit (.bool true)], args := [d1, d2] }
  | _ => none }
def epochGoesRow : OpenClaim := { program := "ytljhobohpnpedaa", sum := "59b1eaef4eb31c0da268f73e6e7c974199f07bf4705fda2f42a9a90957cf495d", func := "garrison/garrisonlaw11.EpochGoes", spec := "epochGoes", unfollowed := true, recurses := true, apart := false }
def EpochGoesSaid : Prop := epochGoesRow.holds Try.pinned (OpenSpec.ofChange epochGoesSpec)

/-- ITS FALSE NEIGHBOUR: 'it returns false'. Refute it at one input. -/
def epochGoesWrong : ChangeSpec := { name := "epochGoes", fn := fun _ => fun
  | [d1, d2] => { results := [.lit (.bool false)], args := [d1, d2] }
  | _ => none }
def EpochGoesWrongFalsely : Prop := epochGoesRow.holds Try.pinned (OpenSpec.ofChange epochGoesWrong)

/-- 'garrisonlaw11.EpochNow': WHATEVER THE INPUT: true; the input reads as it did. -/
def epochNowSpec : ChangeSpec := { name := "epochNow", fn := fun _ => fun
  | [d1, d2] => { results := [.lit (.bool true)], args := [d1, d2] }
  | _ => none }
def epochNowRow : OpenClaim := { program := "ytljhobohpnpedaa", sum := "59b1eaef4eb31c0da268f73e6e7c974199f07bf4705fda2f42a9a90957cf495d", func := "garrison/garrisonlaw11.EpochNow", spec := "epochNow", unfollowed := true, recurses := true, apart := false }
def EpochNowSaid : Prop := epochNowRow.holds Try.pinned (OpenSpec.ofChange epochNowSpec)

/-- ITS FALSE NEIGHBOUR: 'it returns false'. Refute it at one input. -/
def epochNowWrong : ChangeSpec := { name := "epochNow", fn := fun _ => fun
  | [d1, d2] => { results := [.lit (.bool false)], args := [d1, d2] }
  | _ => none }
def EpochNowWrongFalsely : Prop := epochNowRow.holds Try.pinned (OpenSpec.ofChange epochNowWrong)

/-- 'garrisonlaw11.EpochFull': WHATEVER THE INPUT: true; the input reads as it did. -/
def epochFullSpec : ChangeSpec := { name := "epochFull", fn := fun _ => fun
  | [d1, d2, d3] => { results := [.lit (.bool true)], args := [d1, d2, d3] }
  | _ => none }
def epochFullRow : OpenClaim := { program := "ytljhobohpnpedaa", sum := "59b1eaef4eb31c0da268f73e6e7c974199f07bf4705fda2f42a9a90957cf495d", func := "garrison/garrisonlaw11.EpochFull", spec := "epochFull", unfollowed := true, recurses := true, apart := false }
def EpochFullSaid : Prop := epochFullRow.holds Try.pinned (OpenSpec.ofChange epochFullSpec)

/-- ITS FALSE NEIGHBOUR: 'it returns false'. Refute it at one input. -/
def epochFullWrong : ChangeSpec := { name := "epochFull", fn := fun _ => fun
  | [d1, d2, d3] => { results := [.lit (.bool false)], args := [d1, d2, d3] }
  | _ => none }
def EpochFullWrongFalsely : Prop := epochFullRow.holds Try.pinned (OpenSpec.ofChange epochFullWrong)

/-- 'garrisonlaw11.EpochOne': WHATEVER THE INPUT: true; the input reads as it did. -/
def epochOneSpec : ChangeSpec := { name := "epochOne", fn := fun _ => fun
  | [d1, d2] => { results := [.lit (.bool true)], args := [d1, d2] }
  | _ => none }
def epochOneRow : OpenClaim := { program := "ytljhobohpnpedaa", sum := "59b1eaef4eb31c0da268f73e6e7c974199f07bf4705fda2f42a9a90957cf495d", func := "garrison/garrisonlaw11.EpochOne", spec := "epochOne", unfollowed := true, recurses := true, apart := false }
def EpochOneSaid : Prop := epochOneRow.holds Try.pinned (OpenSpec.ofChange epochOneSpec)

/-- ITS FALSE NEIGHBOUR: 'it returns false'. Refute it at one input. -/
def epochOneWrong : ChangeSpec := { name := "epochOne", fn := fun _ => fun
  | [d1, d2] => { results := [.lit (.bool false)], args := [d1, d2] }
  | _ => none }
def EpochOneWrongFalsely : Prop := epochOneRow.holds Try.pinned (OpenSpec.ofChange epochOneWrong)

/- THE SECOND FORM. 'bulk': how many values and letters a reading holds, each counted each time it is reached (what is shared counts as often as it is met; a slice's spare places count too). A statement '..UptoSaid' is the law's where the arguments, and the package variables that the reading takes, are together of bulk at most 1048576: NARROWER than '..Said'. Prove '..Said' where nothing that the law and all that it calls make is longer than what came in: it says more and counts as full. Else prove '..UptoSaid'. A law counts once. -/
mutual
def uptoBulk {H : Type} : DataW H → Nat
  | .lit (.string bytes) => bytes.length + 1
  | .lit _ => 1
  | .nil => 1
  | .ptr d => uptoBulk d + 1
  | .slice elems spare => uptoBulkAll elems + uptoBulkAll spare + 1
  | .agg parts => uptoBulkAll parts + 1
  | .iface _ d => uptoBulk d + 1
  | .map entries => uptoBulkEntries entries + 1
  | .held _ => 1
def uptoBulkAll {H : Type} : List (DataW H) → Nat
  | [] => 0
  | d :: r => uptoBulk d + uptoBulkAll r
def uptoBulkEntries {H : Type} : List (Lit × DataW H) → Nat
  | [] => 0
  | x :: r => uptoBulkEntry x + uptoBulkEntries r
def uptoBulkEntry {H : Type} : Lit × DataW H → Nat
  | (.string bytes, d) => bytes.length + uptoBulk d + 1
  | (_, d) => uptoBulk d + 1
 end
def uptoSmall : (H : Type) → List (DataW H) → Bool := fun _ ds => decide (uptoBulkAll ds ≤ 1048576)
def OpenSpec.upto (s : _root_.Go.ChangeSpec) : _root_.Go.OpenSpec := { _root_.Go.OpenSpec.ofChange s with cond := some uptoSmall }

/-- 'garrisonlaw11.EpochSteps', WHERE WHAT IT READS IS OF BULK AT MOST 1048576: true; the input reads as it did. -/
def epochStepsUptoRow : OpenClaim := { program := "ytljhobohpnpedaa", sum := "59b1eaef4eb31c0da268f73e6e7c974199f07bf4705fda2f42a9a90957cf495d", func := "garrison/garrisonlaw11.EpochSteps", spec := "epochSteps", unfollowed := true, recurses := true, apart := false, narrowed := true }
def EpochStepsUptoSaid : Prop := epochStepsUptoRow.holds Try.pinned (OpenSpec.upto epochStepsSpec)

/-- 'garrisonlaw11.EpochRuns', WHERE WHAT IT READS IS OF BULK AT MOST 1048576: true; the input reads as it did. -/
def epochRunsUptoRow : OpenClaim := { program := "ytljhobohpnpedaa", sum := "59b1eaef4eb31c0da268f73e6e7c974199f07bf4705fda2f42a9a90957cf495d", func := "garrison/garrisonlaw11.EpochRuns", spec := "epochRuns", unfollowed := true, recurses := true, apart := false, narrowed := true }
def EpochRunsUptoSaid : Prop := epochRunsUptoRow.holds Try.pinned (OpenSpec.upto epochRunsSpec)

/-- 'garrisonlaw11.EpochSafe', WHERE WHAT IT READS IS OF BULK AT MOST 1048576: true; the input reads as it did. -/
def epochSafeUptoRow : OpenClaim := { program := "ytljhobohpnpedaa", sum := "59b1eaef4eb31c0da268f73e6e7c974199f07bf4705fda2f42a9a90957cf495d", func := "garrison/garrisonlaw11.EpochSafe", spec := "epochSafe", unfollowed := true, recurses := true, apart := false, narrowed := true }
def EpochSafeUptoSaid : Prop := epochSafeUptoRow.holds Try.pinned (OpenSpec.upto epochSafeSpec)

/-- 'garrisonlaw11.EpochGoes', WHERE WHAT IT READS IS OF BULK AT MOST 1048576: true; the input reads as it did. -/
def epochGoesUptoRow : OpenClaim := { program := "ytljhobohpnpedaa", sum := "59b1eaef4eb31c0da268f73e6e7c974199f07bf4705fda2f42a9a90957cf495d", func := "garrison/garrisonlaw11.EpochGoes", spec := "epochGoes", unfollowed := true, recurses := true, apart := false, narrowed := true }
def EpochGoesUptoSaid : Prop := epochGoesUptoRow.holds Try.pinned (OpenSpec.upto epochGoesSpec)

/-- 'garrisonlaw11.EpochNow', WHERE WHAT IT READS IS OF BULK AT MOST 1048576: true; the input reads as it did. -/
def epochNowUptoRow : OpenClaim := { program := "ytljhobohpnpedaa", sum := "59b1eaef4eb31c0da268f73e6e7c974199f07bf4705fda2f42a9a90957cf495d", func := "garrison/garrisonlaw11.EpochNow", spec := "epochNow", unfollowed := true, recurses := true, apart := false, narrowed := true }
def EpochNowUptoSaid : Prop := epochNowUptoRow.holds Try.pinned (OpenSpec.upto epochNowSpec)

/-- 'garrisonlaw11.EpochFull', WHERE WHAT IT READS IS OF BULK AT MOST 1048576: true; the input reads as it did. -/
def epochFullUptoRow : OpenClaim := { program := "ytljhobohpnpedaa", sum := "59b1eaef4eb31c0da268f73e6e7c974199f07bf4705fda2f42a9a90957cf495d", func := "garrison/garrisonlaw11.EpochFull", spec := "epochFull", unfollowed := true, recurses := true, apart := false, narrowed := true }
def EpochFullUptoSaid : Prop := epochFullUptoRow.holds Try.pinned (OpenSpec.upto epochFullSpec)

/-- 'garrisonlaw11.EpochOne', WHERE WHAT IT READS IS OF BULK AT MOST 1048576: true; the input reads as it did. -/
def epochOneUptoRow : OpenClaim := { program := "ytljhobohpnpedaa", sum := "59b1eaef4eb31c0da268f73e6e7c974199f07bf4705fda2f42a9a90957cf495d", func := "garrison/garrisonlaw11.EpochOne", spec := "epochOne", unfollowed := true, recurses := true, apart := false, narrowed := true }
def EpochOneUptoSaid : Prop := epochOneUptoRow.holds Try.pinned (OpenSpec.upto epochOneSpec)

end Rows
end Go.Proofs.Ytljhobohpnpedaa
