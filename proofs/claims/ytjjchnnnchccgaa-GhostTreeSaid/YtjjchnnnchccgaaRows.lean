/-
  No cell of these rows narrows 'for every input' (looked for: loops, veiled, ifaces, maps, wideKeys, modest, calm, conditions, laid).
  DERIVED. THE GIVEN ROWS OF THIS SEAT. 14 by the template 'for every input the law returns true; each argument reads behind the call as it read before'; 0 by the template 'total and deterministic' (their statements: YtjjchnnnchccgaaTotals.lean).
  GIVEN WITH THE SEED: the statements are not yours to turn. If you find one false, say at which input.
  Laid BY PROGRAM, IN A SANDBOX (cutbox-rows.mjs): the forced cells as the released guide's own fill.sh prints them over the translation 4beb2dd4001bc099… (all of the seat's roots in one cut). By AI agents, Wed Nov 11 2026. No macro, syntax, notation, axiom, sorry.
-/
import Derived.Test.YtjjchnnnchccgaaChecked
import GoSem.Claim
import GoSem.ClaimJoined
import GoSem.ClaimMapViews
import Derived.JoinedTies
import Derived.KernelRfl
namespace Go.Proofs.Ytjjchnnnchccgaa
/- THE CELL 'sum', in the pinned program and in every row, IS THE sha256 OF THE DUMP (.gsa) THAT YtjjchnnnchccgaaProg.lean LOADS. Nothing in Lean hashes anything: it is a label: what it is worth is what the hold of that sum in a sandbox is worth. -/
noncomputable def Try.pinned : Pinned := { name := "ytjjchnnnchccgaa", sum := "4beb2dd4001bc0992d557c1d59ab73ce73fd918dc05648441cd31c64b665907d", checked := Try.checked }
namespace Rows
def none {H : Type} : Left H := { results := [], args := [] }

/-- 'garrisonlaw14.GhostSteps': WHATEVER THE INPUT: true; the input reads as it did. -/
def ghostStepsSpec : ChangeSpec := { name := "ghostSteps", fn := fun _ => fun
  | [d1, d2, d3] => { results := [.lit (.bool true)], args := [d1, d2, d3] }
  | _ => none }
def ghostStepsRow : OpenClaim := { program := "ytjjchnnnchccgaa", sum := "4beb2dd4001bc0992d557c1d59ab73ce73fd918dc05648441cd31c64b665907d", func := "garrison/garrisonlaw14.GhostSteps", spec := "ghostSteps", plainKeys := false, apart := false }
def GhostStepsSaid : Prop := ghostStepsRow.holds Try.pinned (OpenSpec.ofChange ghostStepsSpec)

/-- ITS FALSE NEIGHBOUR: 'it returns false'. Refute it at one input. -/
def ghostStepsWrong : ChangeSpec := { name := "ghostSteps", fn := fun _ => fun
  | [d1, d2, d3] => { results := [.lit (.bool false)], args := [d1, d2, d3] }
  | _ => none }
def GhostStepsWrongFalsely : Prop := ghostStepsRow.holds Try.pinned (OpenSpec.ofChange ghostStepsWrong)

/-- 'garrisonlaw14.GhostRuns': WHATEVER THE INPUT: true; the input reads as it did. -/
def ghostRunsSpec : ChangeSpec := { name := "ghostRuns", fn := fun _ => fun
  | [d] => { results := [.lit (.bool true)], args := [d] }
  | _ => none }
def ghostRunsRow : OpenClaim := { program := "ytjjchnnnchccgaa", sum := "4beb2dd4001bc0992d557c1d59ab73ce73fd918dc05648441cd31c64b665907d", func := "garrison/garrisonlaw14.GhostRuns", spec := "ghostRuns", plainKeys := false, apart := false }
def GhostRunsSaid : Prop := ghostRunsRow.holds Try.pinned (OpenSpec.ofChange ghostRunsSpec)

/-- ITS FALSE NEIGHBOUR: 'it returns false'. Refute it at one input. -/
def ghostRunsWrong : ChangeSpec := { name := "ghostRuns", fn := fun _ => fun
  | [d] => { results := [.lit (.bool false)], args := [d] }
  | _ => none }
def GhostRunsWrongFalsely : Prop := ghostRunsRow.holds Try.pinned (OpenSpec.ofChange ghostRunsWrong)

/-- 'garrisonlaw14.GhostStays': WHATEVER THE INPUT: true; the input reads as it did. -/
def ghostStaysSpec : ChangeSpec := { name := "ghostStays", fn := fun _ => fun
  | [d1, d2, d3, d4] => { results := [.lit (.bool true)], args := [d1, d2, d3, d4] }
  | _ => none }
def ghostStaysRow : OpenClaim := { program := "ytjjchnnnchccgaa", sum := "4beb2dd4001bc0992d557c1d59ab73ce73fd918dc05648441cd31c64b665907d", func := "garrison/garrisonlaw14.GhostStays", spec := "ghostStays", plainKeys := false, apart := false }
def GhostStaysSaid : Prop := ghostStaysRow.holds Try.pinned (OpenSpec.ofChange ghostStaysSpec)

/-- ITS FALSE NEIGHBOUR: 'it returns false'. Refute it at one input. -/
def ghostStaysWrong : ChangeSpec := { name := "ghostStays", fn := fun _ => fun
  | [d1, d2, d3, d4] => { results := [.lit (.bool false)], args := [d1, d2, d3, d4] }
  | _ => none }
def GhostStaysWrongFalsely : Prop := ghostStaysRow.holds Try.pinned (OpenSpec.ofChange ghostStaysWrong)

/-- 'garrisonlaw14.GhostOrder': WHATEVER THE INPUT: true; the input reads as it did. -/
def ghostOrderSpec : ChangeSpec := { name := "ghostOrder", fn := fun _ => fun
  | [d1, d2, d3, d4] => { results := [.lit (.bool true)], args := [d1, d2, d3, d4] }
  | _ => none }
def ghostOrderRow : OpenClaim := { program := "ytjjchnnnchccgaa", sum := "4beb2dd4001bc0992d557c1d59ab73ce73fd918dc05648441cd31c64b665907d", func := "garrison/garrisonlaw14.GhostOrder", spec := "ghostOrder", plainKeys := false, apart := false }
def GhostOrderSaid : Prop := ghostOrderRow.holds Try.pinned (OpenSpec.ofChange ghostOrderSpec)

/-- ITS FALSE NEIGHBOUR: 'it returns false'. Refute it at one input. -/
def ghostOrderWrong : ChangeSpec := { name := "ghostOrder", fn := fun _ => fun
  | [d1, d2, d3, d4] => { results := [.lit (.bool false)], args := [d1, d2, d3, d4] }
  | _ => none }
def GhostOrderWrongFalsely : Prop := ghostOrderRow.holds Try.pinned (OpenSpec.ofChange ghostOrderWrong)

/-- 'garrisonlaw14.GhostParts': WHATEVER THE INPUT: true; the input reads as it did. -/
def ghostPartsSpec : ChangeSpec := { name := "ghostParts", fn := fun _ => fun
  | [d1, d2] => { results := [.lit (.bool true)], args := [d1, d2] }
  | _ => none }
def ghostPartsRow : OpenClaim := { program := "ytjjchnnnchccgaa", sum := "4beb2dd4001bc0992d557c1d59ab73ce73fd918dc05648441cd31c64b665907d", func := "garrison/garrisonlaw14.GhostParts", spec := "ghostParts", plainKeys := false, apart := false }
def GhostPartsSaid : Prop := ghostPartsRow.holds Try.pinned (OpenSpec.ofChange ghostPartsSpec)

/-- ITS FALSE NEIGHBOUR: 'it returns false'. Refute it at one input. -/
def ghostPartsWrong : ChangeSpec := { name := "ghostParts", fn := fun _ => fun
  | [d1, d2] => { results := [.lit (.bool false)], args := [d1, d2] }
  | _ => none }
def GhostPartsWrongFalsely : Prop := ghostPartsRow.holds Try.pinned (OpenSpec.ofChange ghostPartsWrong)

/-- 'garrisonlaw13.TreeSteps': WHATEVER THE INPUT: true; the input reads as it did. -/
def treeStepsSpec : ChangeSpec := { name := "treeSteps", fn := fun _ => fun
  | [d1, d2, d3] => { results := [.lit (.bool true)], args := [d1, d2, d3] }
  | _ => none }
def treeStepsRow : OpenClaim := { program := "ytjjchnnnchccgaa", sum := "4beb2dd4001bc0992d557c1d59ab73ce73fd918dc05648441cd31c64b665907d", func := "garrison/garrisonlaw13.TreeSteps", spec := "treeSteps", unfollowed := true, recurses := true, plainKeys := false, apart := false }
def TreeStepsSaid : Prop := treeStepsRow.holds Try.pinned (OpenSpec.ofChange treeStepsSpec)

/-- ITS FALSE NEIGHBOUR: 'it returns false'. Refute it at one input. -/
def treeStepsWrong : ChangeSpec := { name := "treeSteps", fn := fun _ => fun
  | [d1, d2, d3] => { results := [.lit (.bool false)], args := [d1, d2, d3] }
  | _ => none }
def TreeStepsWrongFalsely : Prop := treeStepsRow.holds Try.pinned (OpenSpec.ofChange treeStepsWrong)

/-- 'garrisonlaw13.TreeTells': WHATEVER THE INPUT: true; the input reads as it did. -/
def treeTellsSpec : ChangeSpec := { name := "treeTells", fn := fun _ => fun
  | [d1, d2, d3] => { results := [.lit (.bool true)], args := [d1, d2, d3] }
  | _ => none }
def treeTellsRow : OpenClaim := { program := "ytjjchnnnchccgaa", sum := "4beb2dd4001bc0992d557c1d59ab73ce73fd918dc05648441cd31c64b665907d", func := "garrison/garrisonlaw13.TreeTells", spec := "treeTells", unfollowed := true, recurses := true, plainKeys := false, apart := false }
def TreeTellsSaid : Prop := treeTellsRow.holds Try.pinned (OpenSpec.ofChange treeTellsSpec)

/-- ITS FALSE NEIGHBOUR: 'it returns false'. Refute it at one input. -/
def treeTellsWrong : ChangeSpec := { name := "treeTells", fn := fun _ => fun
  | [d1, d2, d3] => { results := [.lit (.bool false)], args := [d1, d2, d3] }
  | _ => none }
def TreeTellsWrongFalsely : Prop := treeTellsRow.holds Try.pinned (OpenSpec.ofChange treeTellsWrong)

/-- 'garrisonlaw13.TreeRuns': WHATEVER THE INPUT: true; the input reads as it did. -/
def treeRunsSpec : ChangeSpec := { name := "treeRuns", fn := fun _ => fun
  | [d] => { results := [.lit (.bool true)], args := [d] }
  | _ => none }
def treeRunsRow : OpenClaim := { program := "ytjjchnnnchccgaa", sum := "4beb2dd4001bc0992d557c1d59ab73ce73fd918dc05648441cd31c64b665907d", func := "garrison/garrisonlaw13.TreeRuns", spec := "treeRuns", unfollowed := true, recurses := true, plainKeys := false, apart := false }
def TreeRunsSaid : Prop := treeRunsRow.holds Try.pinned (OpenSpec.ofChange treeRunsSpec)

/-- ITS FALSE NEIGHBOUR: 'it returns false'. Refute it at one input. -/
def treeRunsWrong : ChangeSpec := { name := "treeRuns", fn := fun _ => fun
  | [d] => { results := [.lit (.bool false)], args := [d] }
  | _ => none }
def TreeRunsWrongFalsely : Prop := treeRunsRow.holds Try.pinned (OpenSpec.ofChange treeRunsWrong)

/-- 'garrisonlaw13.TreeBack': WHATEVER THE INPUT: true; the input reads as it did. -/
def treeBackSpec : ChangeSpec := { name := "treeBack", fn := fun _ => fun
  | [d1, d2, d3, d4] => { results := [.lit (.bool true)], args := [d1, d2, d3, d4] }
  | _ => none }
def treeBackRow : OpenClaim := { program := "ytjjchnnnchccgaa", sum := "4beb2dd4001bc0992d557c1d59ab73ce73fd918dc05648441cd31c64b665907d", func := "garrison/garrisonlaw13.TreeBack", spec := "treeBack", unfollowed := true, recurses := true, plainKeys := false, apart := false }
def TreeBackSaid : Prop := treeBackRow.holds Try.pinned (OpenSpec.ofChange treeBackSpec)

/-- ITS FALSE NEIGHBOUR: 'it returns false'. Refute it at one input. -/
def treeBackWrong : ChangeSpec := { name := "treeBack", fn := fun _ => fun
  | [d1, d2, d3, d4] => { results := [.lit (.bool false)], args := [d1, d2, d3, d4] }
  | _ => none }
def TreeBackWrongFalsely : Prop := treeBackRow.holds Try.pinned (OpenSpec.ofChange treeBackWrong)

/-- 'garrisonlaw13.TreeOrder': WHATEVER THE INPUT: true; the input reads as it did. -/
def treeOrderSpec : ChangeSpec := { name := "treeOrder", fn := fun _ => fun
  | [d1, d2, d3, d4] => { results := [.lit (.bool true)], args := [d1, d2, d3, d4] }
  | _ => none }
def treeOrderRow : OpenClaim := { program := "ytjjchnnnchccgaa", sum := "4beb2dd4001bc0992d557c1d59ab73ce73fd918dc05648441cd31c64b665907d", func := "garrison/garrisonlaw13.TreeOrder", spec := "treeOrder", unfollowed := true, recurses := true, plainKeys := false, apart := false }
def TreeOrderSaid : Prop := treeOrderRow.holds Try.pinned (OpenSpec.ofChange treeOrderSpec)

/-- ITS FALSE NEIGHBOUR: 'it returns false'. Refute it at one input. -/
def treeOrderWrong : ChangeSpec := { name := "treeOrder", fn := fun _ => fun
  | [d1, d2, d3, d4] => { results := [.lit (.bool false)], args := [d1, d2, d3, d4] }
  | _ => none }
def TreeOrderWrongFalsely : Prop := treeOrderRow.holds Try.pinned (OpenSpec.ofChange treeOrderWrong)

/-- 'garrisonlaw13.TreeMoves': WHATEVER THE INPUT: true; the input reads as it did. -/
def treeMovesSpec : ChangeSpec := { name := "treeMoves", fn := fun _ => fun
  | [d1, d2, d3, d4, d5] => { results := [.lit (.bool true)], args := [d1, d2, d3, d4, d5] }
  | _ => none }
def treeMovesRow : OpenClaim := { program := "ytjjchnnnchccgaa", sum := "4beb2dd4001bc0992d557c1d59ab73ce73fd918dc05648441cd31c64b665907d", func := "garrison/garrisonlaw13.TreeMoves", spec := "treeMoves", unfollowed := true, recurses := true, plainKeys := false, apart := false }
def TreeMovesSaid : Prop := treeMovesRow.holds Try.pinned (OpenSpec.ofChange treeMovesSpec)

/-- ITS FALSE NEIGHBOUR: 'it returns false'. Refute it at one input. -/
def treeMovesWrong : ChangeSpec := { name := "treeMoves", fn := fun _ => fun
  | [d1, d2, d3, d4, d5] => { results := [.lit (.bool false)], args := [d1, d2, d3, d4, d5] }
  | _ => none }
def TreeMovesWrongFalsely : Prop := treeMovesRow.holds Try.pinned (OpenSpec.ofChange treeMovesWrong)

/-- 'garrisonlaw13.TreeCounts': WHATEVER THE INPUT: true; the input reads as it did. -/
def treeCountsSpec : ChangeSpec := { name := "treeCounts", fn := fun _ => fun
  | [d1, d2] => { results := [.lit (.bool true)], args := [d1, d2] }
  | _ => none }
def treeCountsRow : OpenClaim := { program := "ytjjchnnnchccgaa", sum := "4beb2dd4001bc0992d557c1d59ab73ce73fd918dc05648441cd31c64b665907d", func := "garrison/garrisonlaw13.TreeCounts", spec := "treeCounts", unfollowed := true, recurses := true, plainKeys := false, apart := false }
def TreeCountsSaid : Prop := treeCountsRow.holds Try.pinned (OpenSpec.ofChange treeCountsSpec)

/-- ITS FALSE NEIGHBOUR: 'it returns false'. Refute it at one input. -/
def treeCountsWrong : ChangeSpec := { name := "treeCounts", fn := fun _ => fun
  | [d1, d2] => { results := [.lit (.bool false)], args := [d1, d2] }
  | _ => none }
def TreeCountsWrongFalsely : Prop := treeCountsRow.holds Try.pinned (OpenSpec.ofChange treeCountsWrong)

/-- 'garrisonlaw13.TreeMany': WHATEVER THE INPUT: true; the input reads as it did. -/
def treeManySpec : ChangeSpec := { name := "treeMany", fn := fun _ => fun
  | [d] => { results := [.lit (.bool true)], args := [d] }
  | _ => none }
def treeManyRow : OpenClaim := { program := "ytjjchnnnchccgaa", sum := "4beb2dd4001bc0992d557c1d59ab73ce73fd918dc05648441cd31c64b665907d", func := "garrison/garrisonlaw13.TreeMany", spec := "treeMany", unfollowed := true, recurses := true, plainKeys := false, apart := false }
def TreeManySaid : Prop := treeManyRow.holds Try.pinned (OpenSpec.ofChange treeManySpec)

/-- ITS FALSE NEIGHBOUR: 'it returns false'. Refute it at one input. -/
def treeManyWrong : ChangeSpec := { name := "treeMany", fn := fun _ => fun
  | [d] => { results := [.lit (.bool false)], args := [d] }
  | _ => none }
def TreeManyWrongFalsely : Prop := treeManyRow.holds Try.pinned (OpenSpec.ofChange treeManyWrong)

/-- 'garrisonlaw14.GhostTree': WHATEVER THE INPUT: true; the input reads as it did. -/
def ghostTreeSpec : ChangeSpec := { name := "ghostTree", fn := fun _ => fun
  | [d1, d2, d3] => { results := [.lit (.bool true)], args := [d1, d2, d3] }
  | _ => none }
def ghostTreeRow : OpenClaim := { program := "ytjjchnnnchccgaa", sum := "4beb2dd4001bc0992d557c1d59ab73ce73fd918dc05648441cd31c64b665907d", func := "garrison/garrisonlaw14.GhostTree", spec := "ghostTree", unfollowed := true, recurses := true, plainKeys := false, apart := false }
def GhostTreeSaid : Prop := ghostTreeRow.holds Try.pinned (OpenSpec.ofChange ghostTreeSpec)

/-- ITS FALSE NEIGHBOUR: 'it returns false'. Refute it at one input. -/
def ghostTreeWrong : ChangeSpec := { name := "ghostTree", fn := fun _ => fun
  | [d1, d2, d3] => { results := [.lit (.bool false)], args := [d1, d2, d3] }
  | _ => none }
def GhostTreeWrongFalsely : Prop := ghostTreeRow.holds Try.pinned (OpenSpec.ofChange ghostTreeWrong)

/- THE SECOND FORM. 'bulk': how many values and letters a reading holds, each counted each time it is reached (what is shared counts as often as it is met; a slice's spare places count too). A statement '..UptoSaid' is the law's where the arguments, and the package variables that the reading takes, are together of bulk at most 1048576: NARROWER than '..Said'. Prove '..Said' where nothing that the law and all that it calls make is longer than what came in: it says more and counts as full. Else prove '..UptoSaid'. A law counts once. -/
mutual
def uptoBulk {H : Type} : DataW H → Nat
  | .lit (.string bytes) => bytes.length + 1
  | .lit _ => 1
  | .nil => 1
  | .ptr d => uptoBulk d + 1
  | .slice elems spare => uptoBulkAll elems + uptoBulkAll spare + 1
  | .agg parts => uptoBulkAll parts + 1
  | .iface _ d => uptoBulk d + 1
  | .map entries => uptoBulkEntries entries + 1
  | .held _ => 1
def uptoBulkAll {H : Type} : List (DataW H) → Nat
  | [] => 0
  | d :: r => uptoBulk d + uptoBulkAll r
def uptoBulkEntries {H : Type} : List (Lit × DataW H) → Nat
  | [] => 0
  | x :: r => uptoBulkEntry x + uptoBulkEntries r
def uptoBulkEntry {H : Type} : Lit × DataW H → Nat
  | (.string bytes, d) => bytes.length + uptoBulk d + 1
  | (_, d) => uptoBulk d + 1
 end
def uptoSmall : (H : Type) → List (DataW H) → Bool := fun _ ds => decide (uptoBulkAll ds ≤ 1048576)
def OpenSpec.upto (s : _root_.Go.ChangeSpec) : _root_.Go.OpenSpec := { _root_.Go.OpenSpec.ofChange s with cond := some uptoSmall }

/-- 'garrisonlaw14.GhostSteps', WHERE WHAT IT READS IS OF BULK AT MOST 1048576: true; the input reads as it did. -/
def ghostStepsUptoRow : OpenClaim := { program := "ytjjchnnnchccgaa", sum := "4beb2dd4001bc0992d557c1d59ab73ce73fd918dc05648441cd31c64b665907d", func := "garrison/garrisonlaw14.GhostSteps", spec := "ghostSteps", plainKeys := false, apart := false, narrowed := true }
def GhostStepsUptoSaid : Prop := ghostStepsUptoRow.holds Try.pinned (OpenSpec.upto ghostStepsSpec)

/-- 'garrisonlaw14.GhostRuns', WHERE WHAT IT READS IS OF BULK AT MOST 1048576: true; the input reads as it did. -/
def ghostRunsUptoRow : OpenClaim := { program := "ytjjchnnnchccgaa", sum := "4beb2dd4001bc0992d557c1d59ab73ce73fd918dc05648441cd31c64b665907d", func := "garrison/garrisonlaw14.GhostRuns", spec := "ghostRuns", plainKeys := false, apart := false, narrowed := true }
def GhostRunsUptoSaid : Prop := ghostRunsUptoRow.holds Try.pinned (OpenSpec.upto ghostRunsSpec)

/-- 'garrisonlaw14.GhostStays', WHERE WHAT IT READS IS OF BULK AT MOST 1048576: true; the input reads as it did. -/
def ghostStaysUptoRow : OpenClaim := { program := "ytjjchnnnchccgaa", sum := "4beb2dd4001bc0992d557c1d59ab73ce73fd918dc05648441cd31c64b665907d", func := "garrison/garrisonlaw14.GhostStays", spec := "ghostStays", plainKeys := false, apart := false, narrowed := true }
def GhostStaysUptoSaid : Prop := ghostStaysUptoRow.holds Try.pinned (OpenSpec.upto ghostStaysSpec)

/-- 'garrisonlaw14.GhostOrder', WHERE WHAT IT READS IS OF BULK AT MOST 1048576: true; the input reads as it did. -/
def ghostOrderUptoRow : OpenClaim := { program := "ytjjchnnnchccgaa", sum := "4beb2dd4001bc0992d557c1d59ab73ce73fd918dc05648441cd31c64b665907d", func := "garrison/garrisonlaw14.GhostOrder", spec := "ghostOrder", plainKeys := false, apart := false, narrowed := true }
def GhostOrderUptoSaid : Prop := ghostOrderUptoRow.holds Try.pinned (OpenSpec.upto ghostOrderSpec)

/-- 'garrisonlaw14.GhostParts', WHERE WHAT IT READS IS OF BULK AT MOST 1048576: true; the input reads as it did. -/
def ghostPartsUptoRow : OpenClaim := { program := "ytjjchnnnchccgaa", sum := "4beb2dd4001bc0992d557c1d59ab73ce73fd918dc05648441cd31c64b665907d", func := "garrison/garrisonlaw14.GhostParts", spec := "ghostParts", plainKeys := false, apart := false, narrowed := true }
def GhostPartsUptoSaid : Prop := ghostPartsUptoRow.holds Try.pinned (OpenSpec.upto ghostPartsSpec)

/-- 'garrisonlaw13.TreeSteps', WHERE WHAT IT READS IS OF BULK AT MOST 1048576: true; the input reads as it did. -/
def treeStepsUptoRow : OpenClaim := { program := "ytjjchnnnchccgaa", sum := "4beb2dd4001bc0992d557c1d59ab73ce73fd918dc05648441cd31c64b665907d", func := "garrison/garrisonlaw13.TreeSteps", spec := "treeSteps", unfollowed := true, recurses := true, plainKeys := false, apart := false, narrowed := true }
def TreeStepsUptoSaid : Prop := treeStepsUptoRow.holds Try.pinned (OpenSpec.upto treeStepsSpec)

/-- 'garrisonlaw13.TreeTells', WHERE WHAT IT READS IS OF BULK AT MOST 1048576: true; the input reads as it did. -/
def treeTellsUptoRow : OpenClaim := { program := "ytjjchnnnchccgaa", sum := "4beb2dd4001bc0992d557c1d59ab73ce73fd918dc05648441cd31c64b665907d", func := "garrison/garrisonlaw13.TreeTells", spec := "treeTells", unfollowed := true, recurses := true, plainKeys := false, apart := false, narrowed := true }
def TreeTellsUptoSaid : Prop := treeTellsUptoRow.holds Try.pinned (OpenSpec.upto treeTellsSpec)

/-- 'garrisonlaw13.TreeRuns', WHERE WHAT IT READS IS OF BULK AT MOST 1048576: true; the input reads as it did. -/
def treeRunsUptoRow : OpenClaim := { program := "ytjjchnnnchccgaa", sum := "4beb2dd4001bc0992d557c1d59ab73ce73fd918dc05648441cd31c64b665907d", func := "garrison/garrisonlaw13.TreeRuns", spec := "treeRuns", unfollowed := true, recurses := true, plainKeys := false, apart := false, narrowed := true }
def TreeRunsUptoSaid : Prop := treeRunsUptoRow.holds Try.pinned (OpenSpec.upto treeRunsSpec)

/-- 'garrisonlaw13.TreeBack', WHERE WHAT IT READS IS OF BULK AT MOST 1048576: true; the input reads as it did. -/
def treeBackUptoRow : OpenClaim := { program := "ytjjchnnnchccgaa", sum := "4beb2dd4001bc0992d557c1d59ab73ce73fd918dc05648441cd31c64b665907d", func := "garrison/garrisonlaw13.TreeBack", spec := "treeBack", unfollowed := true, recurses := true, plainKeys := false, apart := false, narrowed := true }
def TreeBackUptoSaid : Prop := treeBackUptoRow.holds Try.pinned (OpenSpec.upto treeBackSpec)

/-- 'garrisonlaw13.TreeOrder', WHERE WHAT IT READS IS OF BULK AT MOST 1048576: true; the input reads as it did. -/
def treeOrderUptoRow : OpenClaim := { program := "ytjjchnnnchccgaa", sum := "4beb2dd4001bc0992d557c1d59ab73ce73fd918dc05648441cd31c64b665907d", func := "garrison/garrisonlaw13.TreeOrder", spec := "treeOrder", unfollowed := true, recurses := true, plainKeys := false, apart := false, narrowed := true }
def TreeOrderUptoSaid : Prop := treeOrderUptoRow.holds Try.pinned (OpenSpec.upto treeOrderSpec)

/-- 'garrisonlaw13.TreeMoves', WHERE WHAT IT READS IS OF BULK AT MOST 1048576: true; the input reads as it did. -/
def treeMovesUptoRow : OpenClaim := { program := "ytjjchnnnchccgaa", sum := "4beb2dd4001bc0992d557c1d59ab73ce73fd918dc05648441cd31c64b665907d", func := "garrison/garrisonlaw13.TreeMoves", spec := "treeMoves", unfollowed := true, recurses := true, plainKeys := false, apart := false, narrowed := true }
def TreeMovesUptoSaid : Prop := treeMovesUptoRow.holds Try.pinned (OpenSpec.upto treeMovesSpec)

/-- 'garrisonlaw13.TreeCounts', WHERE WHAT IT READS IS OF BULK AT MOST 1048576: true; the input reads as it did. -/
def treeCountsUptoRow : OpenClaim := { program := "ytjjchnnnchccgaa", sum := "4beb2dd4001bc0992d557c1d59ab73ce73fd918dc05648441cd31c64b665907d", func := "garrison/garrisonlaw13.TreeCounts", spec := "treeCounts", unfollowed := true, recurses := true, plainKeys := false, apart := false, narrowed := true }
def TreeCountsUptoSaid : Prop := treeCountsUptoRow.holds Try.pinned (OpenSpec.upto treeCountsSpec)

/-- 'garrisonlaw13.TreeMany', WHERE WHAT IT READS IS OF BULK AT MOST 1048576: true; the input reads as it did. -/
def treeManyUptoRow : OpenClaim := { program := "ytjjchnnnchccgaa", sum := "4beb2dd4001bc0992d557c1d59ab73ce73fd918dc05648441cd31c64b665907d", func := "garrison/garrisonlaw13.TreeMany", spec := "treeMany", unfollowed := true, recurses := true, plainKeys := false, apart := false, narrowed := true }
def TreeManyUptoSaid : Prop := treeManyUptoRow.holds Try.pinned (OpenSpec.upto treeManySpec)

/-- 'garrisonlaw14.GhostTree', WHERE WHAT IT READS IS OF BULK AT MOST 1048576: true; the input reads as it did. -/
def ghostTreeUptoRow : OpenClaim := { program := "ytjjchnnnchccgaa", sum := "4beb2dd4001bc0992d557c1d59ab73ce73fd918dc05648441cd31c64b665907d", func := "garrison/garrisonlaw14.GhostTree", spec := "ghostTree", unfollowed := true, recurses := true, plainKeys := false, apart := false, narrowed := true }
def GhostTreeUptoSaid : Prop := ghostTreeUptoRow.holds Try.pinned (OpenSpec.upto ghostTreeSpec)

end Rows
end Go.Proofs.Ytjjchnnnchccgaa
