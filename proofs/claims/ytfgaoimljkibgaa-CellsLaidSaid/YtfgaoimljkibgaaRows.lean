/-
  No cell of these rows narrows 'for every input' (looked for: loops, veiled, ifaces, maps, wideKeys, modest, calm, conditions, laid).
  DERIVED. THE GIVEN ROWS OF THIS SEAT. 8 by the template 'for every input the law returns true; each argument reads behind the call as it read before'; 0 by the template 'total and deterministic' (their statements: YtfgaoimljkibgaaTotals.lean).
  GIVEN WITH THE SEED: the statements are not yours to turn. If you find one false, say at which input.
  Laid BY PROGRAM, IN A SANDBOX (cutbox-rows.mjs): the forced cells as the released guide's own fill.sh prints them over the translation 7e191d266983866d… (all of the seat's roots in one cut). By AI agents, Wed Nov 11 2026. No macro, syntax, notation, axiom, sorry.
-/
import Derived.Test.YtfgaoimljkibgaaChecked
import GoSem.Claim
import GoSem.ClaimJoined
import GoSem.ClaimMapViews
import Derived.JoinedTies
import Derived.KernelRfl
namespace Go.Proofs.Ytfgaoimljkibgaa
/- THE CELL 'sum', in the pinned program and in every row, IS THE sha256 OF THE DUMP (.gsa) THAT YtfgaoimljkibgaaProg.lean LOADS. Nothing in Lean hashes anything: it is a label: what it is worth is what the hold of that sum in a sandbox is worth. -/
noncomputable def Try.pinned : Pinned := { name := "ytfgaoimljkibgaa", sum := "7e191d266983866dfa0407f7f11c51b10f6308210927f08045b78246639a5e17", checked := Try.checked }
namespace Rows
def none {H : Type} : Left H := { results := [], args := [] }

/-- 'garrisonlaw04.CellsApply': WHATEVER THE INPUT: true; the input reads as it did. -/
def cellsApplySpec : ChangeSpec := { name := "cellsApply", fn := fun _ => fun
  | [d1, d2] => { results := [.lit (.bool true)], args := [d1, d2] }
  | _ => none }
def cellsApplyRow : OpenClaim := { program := "ytfgaoimljkibgaa", sum := "7e191d266983866dfa0407f7f11c51b10f6308210927f08045b78246639a5e17", func := "garrison/garrisonlaw04.CellsApply", spec := "cellsApply", apart := false }
def CellsApplySaid : Prop := cellsApplyRow.holds Try.pinned (OpenSpec.ofChange cellsApplySpec)

/-- ITS FALSE NEIGHBOUR: 'it returns false'. Refute it at one input. -/
def cellsApplyWrong : ChangeSpec := { name := "cellsApply", fn := fun _ => fun
  | [d1, d2] => { results := [.lit (.bool false)], args := [d1, d2] }
  | _ => none }
def CellsApplyWrongFalsely : Prop := cellsApplyRow.holds Try.pinned (OpenSpec.ofChange cellsApplyWrong)

/-- 'garrisonlaw04.CellsLocks': WHATEVER THE INPUT: true; the input reads as it did. -/
def cellsLocksSpec : ChangeSpec := { name := "cellsLocks", fn := fun _ => fun
  | [d] => { results := [.lit (.bool true)], args := [d] }
  | _ => none }
def cellsLocksRow : OpenClaim := { program := "ytfgaoimljkibgaa", sum := "7e191d266983866dfa0407f7f11c51b10f6308210927f08045b78246639a5e17", func := "garrison/garrisonlaw04.CellsLocks", spec := "cellsLocks", apart := false }
def CellsLocksSaid : Prop := cellsLocksRow.holds Try.pinned (OpenSpec.ofChange cellsLocksSpec)

/-- ITS FALSE NEIGHBOUR: 'it returns false'. Refute it at one input. -/
def cellsLocksWrong : ChangeSpec := { name := "cellsLocks", fn := fun _ => fun
  | [d] => { results := [.lit (.bool false)], args := [d] }
  | _ => none }
def CellsLocksWrongFalsely : Prop := cellsLocksRow.holds Try.pinned (OpenSpec.ofChange cellsLocksWrong)

/-- 'garrisonlaw04.CellsOnce': WHATEVER THE INPUT: true; the input reads as it did. -/
def cellsOnceSpec : ChangeSpec := { name := "cellsOnce", fn := fun _ => fun
  | [d1, d2] => { results := [.lit (.bool true)], args := [d1, d2] }
  | _ => none }
def cellsOnceRow : OpenClaim := { program := "ytfgaoimljkibgaa", sum := "7e191d266983866dfa0407f7f11c51b10f6308210927f08045b78246639a5e17", func := "garrison/garrisonlaw04.CellsOnce", spec := "cellsOnce", apart := false }
def CellsOnceSaid : Prop := cellsOnceRow.holds Try.pinned (OpenSpec.ofChange cellsOnceSpec)

/-- ITS FALSE NEIGHBOUR: 'it returns false'. Refute it at one input. -/
def cellsOnceWrong : ChangeSpec := { name := "cellsOnce", fn := fun _ => fun
  | [d1, d2] => { results := [.lit (.bool false)], args := [d1, d2] }
  | _ => none }
def CellsOnceWrongFalsely : Prop := cellsOnceRow.holds Try.pinned (OpenSpec.ofChange cellsOnceWrong)

/-- 'garrisonlaw04.CellsApart': WHATEVER THE INPUT: true; the input reads as it did. -/
def cellsApartSpec : ChangeSpec := { name := "cellsApart", fn := fun _ => fun
  | [d1, d2, d3] => { results := [.lit (.bool true)], args := [d1, d2, d3] }
  | _ => none }
def cellsApartRow : OpenClaim := { program := "ytfgaoimljkibgaa", sum := "7e191d266983866dfa0407f7f11c51b10f6308210927f08045b78246639a5e17", func := "garrison/garrisonlaw04.CellsApart", spec := "cellsApart", apart := false }
def CellsApartSaid : Prop := cellsApartRow.holds Try.pinned (OpenSpec.ofChange cellsApartSpec)

/-- ITS FALSE NEIGHBOUR: 'it returns false'. Refute it at one input. -/
def cellsApartWrong : ChangeSpec := { name := "cellsApart", fn := fun _ => fun
  | [d1, d2, d3] => { results := [.lit (.bool false)], args := [d1, d2, d3] }
  | _ => none }
def CellsApartWrongFalsely : Prop := cellsApartRow.holds Try.pinned (OpenSpec.ofChange cellsApartWrong)

/-- 'garrisonlaw04.CellsTrace': WHATEVER THE INPUT: true; the input reads as it did. -/
def cellsTraceSpec : ChangeSpec := { name := "cellsTrace", fn := fun _ => fun
  | [d1, d2] => { results := [.lit (.bool true)], args := [d1, d2] }
  | _ => none }
def cellsTraceRow : OpenClaim := { program := "ytfgaoimljkibgaa", sum := "7e191d266983866dfa0407f7f11c51b10f6308210927f08045b78246639a5e17", func := "garrison/garrisonlaw04.CellsTrace", spec := "cellsTrace", apart := false }
def CellsTraceSaid : Prop := cellsTraceRow.holds Try.pinned (OpenSpec.ofChange cellsTraceSpec)

/-- ITS FALSE NEIGHBOUR: 'it returns false'. Refute it at one input. -/
def cellsTraceWrong : ChangeSpec := { name := "cellsTrace", fn := fun _ => fun
  | [d1, d2] => { results := [.lit (.bool false)], args := [d1, d2] }
  | _ => none }
def CellsTraceWrongFalsely : Prop := cellsTraceRow.holds Try.pinned (OpenSpec.ofChange cellsTraceWrong)

/-- 'garrisonlaw04.CellsRuns': WHATEVER THE INPUT: true; the input reads as it did. -/
def cellsRunsSpec : ChangeSpec := { name := "cellsRuns", fn := fun _ => fun
  | [d1, d2] => { results := [.lit (.bool true)], args := [d1, d2] }
  | _ => none }
def cellsRunsRow : OpenClaim := { program := "ytfgaoimljkibgaa", sum := "7e191d266983866dfa0407f7f11c51b10f6308210927f08045b78246639a5e17", func := "garrison/garrisonlaw04.CellsRuns", spec := "cellsRuns", apart := false }
def CellsRunsSaid : Prop := cellsRunsRow.holds Try.pinned (OpenSpec.ofChange cellsRunsSpec)

/-- ITS FALSE NEIGHBOUR: 'it returns false'. Refute it at one input. -/
def cellsRunsWrong : ChangeSpec := { name := "cellsRuns", fn := fun _ => fun
  | [d1, d2] => { results := [.lit (.bool false)], args := [d1, d2] }
  | _ => none }
def CellsRunsWrongFalsely : Prop := cellsRunsRow.holds Try.pinned (OpenSpec.ofChange cellsRunsWrong)

/-- 'garrisonlaw04.CellsMany': WHATEVER THE INPUT: true; the input reads as it did. -/
def cellsManySpec : ChangeSpec := { name := "cellsMany", fn := fun _ => fun
  | [d1, d2] => { results := [.lit (.bool true)], args := [d1, d2] }
  | _ => none }
def cellsManyRow : OpenClaim := { program := "ytfgaoimljkibgaa", sum := "7e191d266983866dfa0407f7f11c51b10f6308210927f08045b78246639a5e17", func := "garrison/garrisonlaw04.CellsMany", spec := "cellsMany", apart := false }
def CellsManySaid : Prop := cellsManyRow.holds Try.pinned (OpenSpec.ofChange cellsManySpec)

/-- ITS FALSE NEIGHBOUR: 'it returns false'. Refute it at one input. -/
def cellsManyWrong : ChangeSpec := { name := "cellsMany", fn := fun _ => fun
  | [d1, d2] => { results := [.lit (.bool false)], args := [d1, d2] }
  | _ => none }
def CellsManyWrongFalsely : Prop := cellsManyRow.holds Try.pinned (OpenSpec.ofChange cellsManyWrong)

/-- 'garrisonlaw04.CellsLaid': WHATEVER THE INPUT: true; the input reads as it did. -/
def cellsLaidSpec : ChangeSpec := { name := "cellsLaid", fn := fun _ => fun
  | [d1, d2, d3, d4] => { results := [.lit (.bool true)], args := [d1, d2, d3, d4] }
  | _ => none }
def cellsLaidRow : OpenClaim := { program := "ytfgaoimljkibgaa", sum := "7e191d266983866dfa0407f7f11c51b10f6308210927f08045b78246639a5e17", func := "garrison/garrisonlaw04.CellsLaid", spec := "cellsLaid", apart := false }
def CellsLaidSaid : Prop := cellsLaidRow.holds Try.pinned (OpenSpec.ofChange cellsLaidSpec)

/-- ITS FALSE NEIGHBOUR: 'it returns false'. Refute it at one input. -/
def cellsLaidWrong : ChangeSpec := { name := "cellsLaid", fn := fun _ => fun
  | [d1, d2, d3, d4] => { results := [.lit (.bool false)], args := [d1, d2, d3, d4] }
  | _ => none }
def CellsLaidWrongFalsely : Prop := cellsLaidRow.holds Try.pinned (OpenSpec.ofChange cellsLaidWrong)

/- THE SECOND FORM. 'bulk': how many values and letters a reading holds, each counted each time it is reached (what is shared counts as often as it is met; a slice's spare places count too). A statement '..UptoSaid' is the law's where the arguments, and the package variables that the reading takes, are together of bulk at most 1048576: NARROWER than '..Said'. Prove '..Said' where nothing that the law and all that it calls make is longer than what came in: it says more and counts as full. Else prove '..UptoSaid'. A law counts once. -/
mutual
def uptoBulk {H : Type} : DataW H → Nat
  | .lit (.string bytes) => bytes.length + 1
  | .lit _ => 1
  | .nil => 1
  | .ptr d => uptoBulk d + 1
  | .slice elems spare => uptoBulkAll elems + uptoBulkAll spare + 1
  | .agg parts => uptoBulkAll parts + 1
  | .iface _ d => uptoBulk d + 1
  | .map entries => uptoBulkEntries entries + 1
  | .held _ => 1
def uptoBulkAll {H : Type} : List (DataW H) → Nat
  | [] => 0
  | d :: r => uptoBulk d + uptoBulkAll r
def uptoBulkEntries {H : Type} : List (Lit × DataW H) → Nat
  | [] => 0
  | x :: r => uptoBulkEntry x + uptoBulkEntries r
def uptoBulkEntry {H : Type} : Lit × DataW H → Nat
  | (.string bytes, d) => bytes.length + uptoBulk d + 1
  | (_, d) => uptoBulk d + 1
 end
def uptoSmall : (H : Type) → List (DataW H) → Bool := fun _ ds => decide (uptoBulkAll ds ≤ 1048576)
def OpenSpec.upto (s : _root_.Go.ChangeSpec) : _root_.Go.OpenSpec := { _root_.Go.OpenSpec.ofChange s with cond := some uptoSmall }

/-- 'garrisonlaw04.CellsApply', WHERE WHAT IT READS IS OF BULK AT MOST 1048576: true; the input reads as it did. -/
def cellsApplyUptoRow : OpenClaim := { program := "ytfgaoimljkibgaa", sum := "7e191d266983866dfa0407f7f11c51b10f6308210927f08045b78246639a5e17", func := "garrison/garrisonlaw04.CellsApply", spec := "cellsApply", apart := false, narrowed := true }
def CellsApplyUptoSaid : Prop := cellsApplyUptoRow.holds Try.pinned (OpenSpec.upto cellsApplySpec)

/-- 'garrisonlaw04.CellsLocks', WHERE WHAT IT READS IS OF BULK AT MOST 1048576: true; the input reads as it did. -/
def cellsLocksUptoRow : OpenClaim := { program := "ytfgaoimljkibgaa", sum := "7e191d266983866dfa0407f7f11c51b10f6308210927f08045b78246639a5e17", func := "garrison/garrisonlaw04.CellsLocks", spec := "cellsLocks", apart := false, narrowed := true }
def CellsLocksUptoSaid : Prop := cellsLocksUptoRow.holds Try.pinned (OpenSpec.upto cellsLocksSpec)

/-- 'garrisonlaw04.CellsOnce', WHERE WHAT IT READS IS OF BULK AT MOST 1048576: true; the input reads as it did. -/
def cellsOnceUptoRow : OpenClaim := { program := "ytfgaoimljkibgaa", sum := "7e191d266983866dfa0407f7f11c51b10f6308210927f08045b78246639a5e17", func := "garrison/garrisonlaw04.CellsOnce", spec := "cellsOnce", apart := false, narrowed := true }
def CellsOnceUptoSaid : Prop := cellsOnceUptoRow.holds Try.pinned (OpenSpec.upto cellsOnceSpec)

/-- 'garrisonlaw04.CellsApart', WHERE WHAT IT READS IS OF BULK AT MOST 1048576: true; the input reads as it did. -/
def cellsApartUptoRow : OpenClaim := { program := "ytfgaoimljkibgaa", sum := "7e191d266983866dfa0407f7f11c51b10f6308210927f08045b78246639a5e17", func := "garrison/garrisonlaw04.CellsApart", spec := "cellsApart", apart := false, narrowed := true }
def CellsApartUptoSaid : Prop := cellsApartUptoRow.holds Try.pinned (OpenSpec.upto cellsApartSpec)

/-- 'garrisonlaw04.CellsTrace', WHERE WHAT IT READS IS OF BULK AT MOST 1048576: true; the input reads as it did. -/
def cellsTraceUptoRow : OpenClaim := { program := "ytfgaoimljkibgaa", sum := "7e191d266983866dfa0407f7f11c51b10f6308210927f08045b78246639a5e17", func := "garrison/garrisonlaw04.CellsTrace", spec := "cellsTrace", apart := false, narrowed := true }
def CellsTraceUptoSaid : Prop := cellsTraceUptoRow.holds Try.pinned (OpenSpec.upto cellsTraceSpec)

/-- 'garrisonlaw04.CellsRuns', WHERE WHAT IT READS IS OF BULK AT MOST 1048576: true; the input reads as it did. -/
def cellsRunsUptoRow : OpenClaim := { program := "ytfgaoimljkibgaa", sum := "7e191d266983866dfa0407f7f11c51b10f6308210927f08045b78246639a5e17", func := "garrison/garrisonlaw04.CellsRuns", spec := "cellsRuns", apart := false, narrowed := true }
def CellsRunsUptoSaid : Prop := cellsRunsUptoRow.holds Try.pinned (OpenSpec.upto cellsRunsSpec)

/-- 'garrisonlaw04.CellsMany', WHERE WHAT IT READS IS OF BULK AT MOST 1048576: true; the input reads as it did. -/
def cellsManyUptoRow : OpenClaim := { program := "ytfgaoimljkibgaa", sum := "7e191d266983866dfa0407f7f11c51b10f6308210927f08045b78246639a5e17", func := "garrison/garrisonlaw04.CellsMany", spec := "cellsMany", apart := false, narrowed := true }
def CellsManyUptoSaid : Prop := cellsManyUptoRow.holds Try.pinned (OpenSpec.upto cellsManySpec)

/-- 'garrisonlaw04.CellsLaid', WHERE WHAT IT READS IS OF BULK AT MOST 1048576: true; the input reads as it did. -/
def cellsLaidUptoRow : OpenClaim := { program := "ytfgaoimljkibgaa", sum := "7e191d266983866dfa0407f7f11c51b10f6308210927f08045b78246639a5e17", func := "garrison/garrisonlaw04.CellsLaid", spec := "cellsLaid", apart := false, narrowed := true }
def CellsLaidUptoSaid : Prop := cellsLaidUptoRow.holds Try.pinned (OpenSpec.upto cellsLaidSpec)

end Rows
end Go.Proofs.Ytfgaoimljkibgaa
