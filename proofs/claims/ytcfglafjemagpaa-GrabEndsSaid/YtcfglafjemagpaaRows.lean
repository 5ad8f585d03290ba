/-
  No cell of these rows narrows 'for every input' (looked for: loops, veiled, ifaces, maps, wideKeys, modest, calm, conditions, laid).
  DERIVED. THE GIVEN ROWS OF THIS SEAT. 4 by the template 'for every input the law returns true; each argument reads behind the call as it read before'; 0 by the template 'total and deterministic' (their statements: YtcfglafjemagpaaTotals.lean).
  GIVEN WITH THE SEED: the statements are not yours to turn. If you find one false, say at which input.
  Laid BY PROGRAM, IN A SANDBOX (cutbox-rows.mjs): the forced cells as the released guide's own fill.sh prints them over the translation 67d0cd66913d84f0… (all of the seat's roots in one cut). By AI agents, Wed Nov 11 2026. No macro, syntax, notation, axiom, sorry.
-/
import Derived.Test.YtcfglafjemagpaaChecked
import GoSem.Claim
import GoSem.ClaimJoined
import GoSem.ClaimMapViews
import Derived.JoinedTies
import Derived.KernelRfl
namespace Go.Proofs.Ytcfglafjemagpaa
/- THE CELL 'sum', in the pinned program and in every row, IS THE sha256 OF THE DUMP (.gsa) THAT YtcfglafjemagpaaProg.lean LOADS. Nothing in Lean hashes anything: it is a label: what it is worth is what the hold of that sum in a sandbox is worth. -/
noncomputable def Try.pinned : Pinned := { name := "ytcfglafjemagpaa", sum := "67d0cd66913d84f058374cfbcf84a8c9cc387a996937eef737eff63186b73a4b", checked := Try.checked }
namespace Rows
def none {H : Type} : Left H := { results := [], args := [] }

/-- 'garrisonlaw07.GrabSingle': WHATEVER THE INPUT: true; the input reads as it did. -/
def grabSingleSpec : ChangeSpec := { name := "grabSingle", fn := fun _ => fun
  | [d1, d2, d3] => { results := [.lit (.bool true)], args := [d1, d2, d3] }
  | _ => none }
def grabSingleRow : OpenClaim := { program := "ytcfglafjemagpaa", sum := "67d0cd66913d84f058374cfbcf84a8c9cc387a996937eef737eff63186b73a4b", func := "garrison/garrisonlaw07.GrabSingle", spec := "grabSingle", unfollowed := true, recurses := true, apart := false }
def GrabSingleSaid : Prop := grabSingleRow.holds Try.pinned (OpenSpec.ofChange grabSingleSpec)

/-- ITS FALSE NEIGHBOUR: 'it returns false'. Refute it at one input. -/
def grabSingleWrong : ChangeSpec := { name := "grabSingle", fn := fun _ => fun
  | [d1, d2, d3] => { results := [.lit (.bool false)], args := [d1, d2, d3] }
  | _ => none }
def GrabSingleWrongFalsely : Prop := grabSingleRow.holds Try.pinned (OpenSpec.ofChange grabSingleWrong)

/-- 'garrisonlaw07.GrabWaits': WHATEVER THE INPUT: true; the input reads as it did. -/
def grabWaitsSpec : ChangeSpec := { name := "grabWaits", fn := fun _ => fun
  | [d1, d2, d3, d4] => { results := [.lit (.bool true)], args := [d1, d2, d3, d4] }
  | _ => none }
def grabWaitsRow : OpenClaim := { program := "ytcfglafjemagpaa", sum := "67d0cd66913d84f058374cfbcf84a8c9cc387a996937eef737eff63186b73a4b", func := "garrison/garrisonlaw07.GrabWaits", spec := "grabWaits", unfollowed := true, recurses := true, apart := false }
def GrabWaitsSaid : Prop := grabWaitsRow.holds Try.pinned (OpenSpec.ofChange grabWaitsSpec)

/-- ITS FALSE NEIGHBOUR: 'it returns false'. Refute it at one input. -/
def grabWaitsWrong : ChangeSpec := { name := "grabWaits", fn := fun _ => fun
  | [d1, d2, d3, d4] => { results := [.lit (.bool false)], args := [d1, d2, d3, d4] }
  | _ => none }
def GrabWaitsWrongFalsely : Prop := grabWaitsRow.holds Try.pinned (OpenSpec.ofChange grabWaitsWrong)

/-- 'garrisonlaw07.GrabAlone': WHATEVER THE INPUT: true; the input reads as it did. -/
def grabAloneSpec : ChangeSpec := { name := "grabAlone", fn := fun _ => fun
  | [d1, d2] => { results := [.lit (.bool true)], args := [d1, d2] }
  | _ => none }
def grabAloneRow : OpenClaim := { program := "ytcfglafjemagpaa", sum := "67d0cd66913d84f058374cfbcf84a8c9cc387a996937eef737eff63186b73a4b", func := "garrison/garrisonlaw07.GrabAlone", spec := "grabAlone", unfollowed := true, recurses := true, apart := false }
def GrabAloneSaid : Prop := grabAloneRow.holds Try.pinned (OpenSpec.ofChange grabAloneSpec)

/-- ITS FALSE NEIGHBOUR: 'it returns false'. Refute it at one input. -/
def grabAloneWrong : ChangeSpec := { name := "grabAlone", fn := fun _ => fun
  | [d1, d2] => { results := [.lit (.bool false)], args := [d1, d2] }
  | _ => none }
def GrabAloneWrongFalsely : Prop := grabAloneRow.holds Try.pinned (OpenSpec.ofChange grabAloneWrong)

/-- 'garrisonlaw07.GrabEnds': WHATEVER THE INPUT: true; the input reads as it did. -/
def grabEndsSpec : ChangeSpec := { name := "grabEnds", fn := fun _ => fun
  | [d1, d2] => { results := [.lit (.bool true)], args := [d1, d2] }
  | _ => none }
def grabEndsRow : OpenClaim := { program := "ytcfglafjemagpaa", sum := "67d0cd66913d84f058374cfbcf84a8c9cc387a996937eef737eff63186b73a4b", func := "garrison/garrisonlaw07.GrabEnds", spec := "grabEnds", unfollowed := true, recurses := true, apart := false }
def GrabEndsSaid : Prop := grabEndsRow.holds Try.pinned (OpenSpec.ofChange grabEndsSpec)

/-- ITS FALSE NEIGHBOUR: 'it returns false'. Refute it at one input. -/
def grabEndsWrong : ChangeSpec := { name := "grabEnds", fn := fun _ => fun
  | [d1, d2] => { results := [.lit (.bool false)], args := [d1, d2] }
  | _ => none }
def GrabEndsWrongFalsely : Prop := grabEndsRow.holds Try.pinned (OpenSpec.ofChange grabEndsWrong)

/- THE SECOND FORM. 'bulk': how many values and letters a reading holds, each counted each time it is reached (what is shared counts as often as it is met; a slice's spare places count too). A statement '..UptoSaid' is the law's where the arguments, and the package variables that the reading takes, are together of bulk at most 1048576: NARROWER than '..Said'. Prove '..Said' where nothing that the law and all that it calls make is longer than what came in: it says more and counts as full. Else prove '..UptoSaid'. A law counts once. -/
mutual
def uptoBulk {H : Type} : DataW H → Nat
  | .lit (.string bytes) => bytes.length + 1
  | .lit _ => 1
  | .nil => 1
  | .ptr d => uptoBulk d + 1
  | .slice elems spare => uptoBulkAll elems + uptoBulkAll spare + 1
  | .agg parts => uptoBulkAll parts + 1
  | .iface _ d => uptoBulk d + 1
  | .map entries => uptoBulkEntries entries + 1
  | .held _ => 1
def uptoBulkAll {H : Type} : List (DataW H) → Nat
  | [] => 0
  | d :: r => uptoBulk d + uptoBulkAll r
def uptoBulkEntries {H : Type} : List (Lit × DataW H) → Nat
  | [] => 0
  | x :: r => uptoBulkEntry x + uptoBulkEntries r
def uptoBulkEntry {H : Type} : Lit × DataW H → Nat
  | (.string bytes, d) => bytes.length + uptoBulk d + 1
  | (_, d) => uptoBulk d + 1
 end
def uptoSmall : (H : Type) → List (DataW H) → Bool := fun _ ds => decide (uptoBulkAll ds ≤ 1048576)
def OpenSpec.upto (s : _root_.Go.ChangeSpec) : _root_.Go.OpenSpec := { _root_.Go.OpenSpec.ofChange s with cond := some uptoSmall }

/-- 'garrisonlaw07.GrabSingle', WHERE WHAT IT READS IS OF BULK AT MOST 1048576: true; the input reads as it did. -/
def grabSingleUptoRow : OpenClaim := { program := "ytcfglafjemagpaa", sum := "67d0cd66913d84f058374cfbcf84a8c9cc387a996937eef737eff63186b73a4b", func := "garrison/garrisonlaw07.GrabSingle", spec := "grabSingle", unfollowed := true, recurses := true, apart := false, narrowed := true }
def GrabSingleUptoSaid : Prop := grabSingleUptoRow.holds Try.pinned (OpenSpec.upto grabSingleSpec)

/-- 'garrisonlaw07.GrabWaits', WHERE WHAT IT READS IS OF BULK AT MOST 1048576: true; the input reads as it did. -/
def grabWaitsUptoRow : OpenClaim := { program := "ytcfglafjemagpaa", sum := "67d0cd66913d84f058374cfbcf84a8c9cc387a996937eef737eff63186b73a4b", func := "garrison/garrisonlaw07.GrabWaits", spec := "grabWaits", unfollowed := true, recurses := true, apart := false, narrowed := true }
def GrabWaitsUptoSaid : Prop := grabWaitsUptoRow.holds Try.pinned (OpenSpec.upto grabWaitsSpec)

/-- 'garrisonlaw07.GrabAlone', WHERE WHAT IT READS IS OF BULK AT MOST 1048576: true; the input reads as it did. -/
def grabAloneUptoRow : OpenClaim := { program := "ytcfglafjemagpaa", sum := "67d0cd66913d84f058374cfbcf84a8c9cc387a996937eef737eff63186b73a4b", func := "garrison/garrisonlaw07.GrabAlone", spec := "grabAlone", unfollowed := true, recurses := true, apart := false, narrowed := true }
def GrabAloneUptoSaid : Prop := grabAloneUptoRow.holds Try.pinned (OpenSpec.upto grabAloneSpec)

/-- 'garrisonlaw07.GrabEnds', WHERE WHAT IT READS IS OF BULK AT MOST 1048576: true; the input reads as it did. -/
def grabEndsUptoRow : OpenClaim := { program := "ytcfglafjemagpaa", sum := "67d0cd66913d84f058374cfbcf84a8c9cc387a996937eef737eff63186b73a4b", func := "garrison/garrisonlaw07.GrabEnds", spec := "grabEnds", unfollowed := true, recurses := true, apart := false, narrowed := true }
def GrabEndsUptoSaid : Prop := grabEndsUptoRow.holds Try.pinned (OpenSpec.upto grabEndsSpec)

end Rows
end Go.Proofs.Ytcfglafjemagpaa
