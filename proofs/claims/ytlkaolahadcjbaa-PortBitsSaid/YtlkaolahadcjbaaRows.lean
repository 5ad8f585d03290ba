/-
  No cell of these rows narrows 'for every input' (looked for: loops, veiled, ifaces, maps, wideKeys, modest, calm, conditions, laid).
  DERIVED. THE GIVEN ROWS OF THIS SEAT. 6 by the template 'for every input the law returns true; each argument reads behind the call as it read before'; 0 by the template 'total and deterministic' (their statements: YtlkaolahadcjbaaTotals.lean).
  GIVEN WITH THE SEED: the statements are not yours to turn. If you find one false, say at which input.
  Laid BY PROGRAM, IN A SANDBOX (cutbox-rows.mjs): the forced cells as the released guide's own fill.sh prints them over the translation dc4a967a4a6ef05d… (all of the seat's roots in one cut). By AI agents, Wed Nov 11 2026. No macro, syntax, notation, axiom, sorry.
-/
import Derived.Test.YtlkaolahadcjbaaChecked
import GoSem.Claim
import GoSem.ClaimJoined
import GoSem.ClaimMapViews
import Derived.JoinedTies
import Derived.KernelRfl
namespace Go.Proofs.Ytlkaolahadcjbaa
/- THE CELL 'sum', in the pinned program and in every row, IS THE sha256 OF THE DUMP (.gsa) THAT YtlkaolahadcjbaaProg.lean LOADS. Nothing in Lean hashes anything: it is a label: what it is worth is what the hold of that sum in a sandbox is worth. -/
noncomputable def Try.pinned : Pinned := { name := "ytlkaolahadcjbaa", sum := "dc4a967a4a6ef05dafd7c8808b2950b41874a05674a0a516fbe33a1aa105dca7", checked := Try.checked }
namespace Rows
def none {H : Type} : Left H := { results := [], args := [] }

/-- 'garrisonlaw16.PortRuns': WHATEVER THE INPUT: true; the input reads as it did. -/
def portRunsSpec : ChangeSpec := { name := "portRuns", fn := fun _ => fun
  | [d] => { results := [.lit (.bool true)], args := [d] }
  | _ => none }
def portRunsRow : OpenClaim := { program := "ytlkaolahadcjbaa", sum := "dc4a967a4a6ef05dafd7c8808b2950b41874a05674a0a516fbe33a1aa105dca7", func := "garrison/garrisonlaw16.PortRuns", spec := "portRuns", unfollowed := true, recurses := true, apart := false }
def PortRunsSaid : Prop := portRunsRow.holds Try.pinned (OpenSpec.ofChange portRunsSpec)

/-- ITS FALSE NEIGHBOUR: 'it returns false'. Refute it at one input. -/
def portRunsWrong : ChangeSpec := { name := "portRuns", fn := fun _ => fun
  | [d] => { results := [.lit (.bool false)], args := [d] }
  | _ => none }
def PortRunsWrongFalsely : Prop := portRunsRow.holds Try.pinned (OpenSpec.ofChange portRunsWrong)

/-- 'garrisonlaw16.PortFirst': WHATEVER THE INPUT: true; the input reads as it did. -/
def portFirstSpec : ChangeSpec := { name := "portFirst", fn := fun _ => fun
  | [d] => { results := [.lit (.bool true)], args := [d] }
  | _ => none }
def portFirstRow : OpenClaim := { program := "ytlkaolahadcjbaa", sum := "dc4a967a4a6ef05dafd7c8808b2950b41874a05674a0a516fbe33a1aa105dca7", func := "garrison/garrisonlaw16.PortFirst", spec := "portFirst", unfollowed := true, recurses := true, apart := false }
def PortFirstSaid : Prop := portFirstRow.holds Try.pinned (OpenSpec.ofChange portFirstSpec)

/-- ITS FALSE NEIGHBOUR: 'it returns false'. Refute it at one input. -/
def portFirstWrong : ChangeSpec := { name := "portFirst", fn := fun _ => fun
  | [d] => { results := [.lit (.bool false)], args := [d] }
  | _ => none }
def PortFirstWrongFalsely : Prop := portFirstRow.holds Try.pinned (OpenSpec.ofChange portFirstWrong)

/-- 'garrisonlaw16.PortBits': WHATEVER THE INPUT: true; the input reads as it did. -/
def portBitsSpec : ChangeSpec := { name := "portBits", fn := fun _ => fun
  | [d] => { results := [.lit (.bool true)], args := [d] }
  | _ => none }
def portBitsRow : OpenClaim := { program := "ytlkaolahadcjbaa", sum := "dc4a967a4a6ef05dafd7c8808b2950b41874a05674a0a516fbe33a1aa105dca7", func := "garrison/garrisonlaw16.PortBits", spec := "portBits", unfollowed := true, recurses := true, apart := false }
def PortBitsSaid : Prop := portBitsRow.holds Try.pinned (OpenSpec.ofChange portBitsSpec)

/-- ITS FALSE NEIGHBOUR: 'it returns false'. Refute it at one input. -/
def portBitsWrong : ChangeSpec := { name := "portBits", fn := fun _ => fun
  | [d] => { results := [.lit (.bool false)], args := [d] }
  | _ => none }
def PortBitsWrongFalsely : Prop := portBitsRow.holds Try.pinned (OpenSpec.ofChange portBitsWrong)

/-- 'garrisonlaw16.PortDrops': WHATEVER THE INPUT: true; the input reads as it did. -/
def portDropsSpec : ChangeSpec := { name := "portDrops", fn := fun _ => fun
  | [d1, d2] => { results := [.lit (.bool true)], args := [d1, d2] }
  | _ => none }
def portDropsRow : OpenClaim := { program := "ytlkaolahadcjbaa", sum := "dc4a967a4a6ef05dafd7c8808b2950b41874a05674a0a516fbe33a1aa105dca7", func := "garrison/garrisonlaw16.PortDrops", spec := "portDrops", unfollowed := true, recurses := true, apart := false }
def PortDropsSaid : Prop := portDropsRow.holds Try.pinned (OpenSpec.ofChange portDropsSpec)

/-- ITS FALSE NEIGHBOUR: 'it returns false'. Refute it at one input. -/
def portDropsWrong : ChangeSpec := { name := "portDrops", fn := fun _ => fun
  | [d1, d2] => { results := [.lit (.bool false)], args := [d1, d2] }
  | _ => none }
def PortDropsWrongFalsely : Prop := portDropsRow.holds Try.pinned (OpenSpec.ofChange portDropsWrong)

/-- 'garrisonlaw16.PortTurns': WHATEVER THE INPUT: true; the input reads as it did. -/
def portTurnsSpec : ChangeSpec := { name := "portTurns", fn := fun _ => fun
  | [d1, d2, d3] => { results := [.lit (.bool true)], args := [d1, d2, d3] }
  | _ => none }
def portTurnsRow : OpenClaim := { program := "ytlkaolahadcjbaa", sum := "dc4a967a4a6ef05dafd7c8808b2950b41874a05674a0a516fbe33a1aa105dca7", func := "garrison/garrisonlaw16.PortTurns", spec := "portTurns", unfollowed := true, recurses := true, apart := false }
def PortTurnsSaid : Prop := portTurnsRow.holds Try.pinned (OpenSpec.ofChange portTurnsSpec)

/-- ITS FALSE NEIGHBOUR: 'it returns false'. Refute it at one input. -/
def portTurnsWrong : ChangeSpec := { name := "portTurns", fn := fun _ => fun
  | [d1, d2, d3] => { results := [.lit (.bool false)], args := [d1, d2, d3] }
  | _ => none }
def PortTurnsWrongFalsely : Prop := portTurnsRow.holds Try.pinned (OpenSpec.ofChange portTurnsWrong)

/-- 'garrisonlaw16.PortMany': WHATEVER THE INPUT: true; the input reads as it did. -/
def portManySpec : ChangeSpec := { name := "portMany", fn := fun _ => fun
  | [d1, d2] => { results := [.lit (.bool true)], args := [d1, d2] }
  | _ => none }
def portManyRow : OpenClaim := { program := "ytlkaolahadcjbaa", sum := "dc4a967a4a6ef05dafd7c8808b2950b41874a05674a0a516fbe33a1aa105dca7", func := "garrison/garrisonlaw16.PortMany", spec := "portMany", unfollowed := true, recurses := true, apart := false }
def PortManySaid : Prop := portManyRow.holds Try.pinned (OpenSpec.ofChange portManySpec)

/-- ITS FALSE NEIGHBOUR: 'it returns false'. Refute it at one input. -/
def portManyWrong : ChangeSpec := { name := "portMany", fn := fun _ => fun
  | [d1, d2] => { results := [.lit (.bool false)], args := [d1, d2] }
  | _ => none }
def PortManyWrongFalsely : Prop := portManyRow.holds Try.pinned (OpenSpec.ofChange portManyWrong)

/- THE SECOND FORM. 'bulk': how many values and letters a reading holds, each counted each time it is reached (what is shared counts as often as it is met; a slice's spare places count too). A statement '..UptoSaid' is the law's where the arguments, and the package variables that the reading takes, are together of bulk at most 1048576: NARROWER than '..Said'. Prove '..Said' where nothing that the law and all that it calls make is longer than what came in: it says more and counts as full. Else prove '..UptoSaid'. A law counts once. -/
mutual
def uptoBulk {H : Type} : DataW H → Nat
  | .lit (.string bytes) => bytes.length + 1
  | .lit _ => 1
  | .nil => 1
  | .ptr d => uptoBulk d + 1
  | .slice elems spare => uptoBulkAll elems + uptoBulkAll spare + 1
  | .agg parts => uptoBulkAll parts + 1
  | .iface _ d => uptoBulk d + 1
  | .map entries => uptoBulkEntries entries + 1
  | .held _ => 1
def uptoBulkAll {H : Type} : List (DataW H) → Nat
  | [] => 0
  | d :: r => uptoBulk d + uptoBulkAll r
def uptoBulkEntries {H : Type} : List (Lit × DataW H) → Nat
  | [] => 0
  | x :: r => uptoBulkEntry x + uptoBulkEntries r
def uptoBulkEntry {H : Type} : Lit × DataW H → Nat
  | (.string bytes, d) => bytes.length + uptoBulk d + 1
  | (_, d) => uptoBulk d + 1
 end
def uptoSmall : (H : Type) → List (DataW H) → Bool := fun _ ds => decide (uptoBulkAll ds ≤ 1048576)
def OpenSpec.upto (s : _root_.Go.ChangeSpec) : _root_.Go.OpenSpec := { _root_.Go.OpenSpec.ofChange s with cond := some uptoSmall }

/-- 'garrisonlaw16.PortRuns', WHERE WHAT IT READS IS OF BULK AT MOST 1048576: true; the input reads as it did. -/
def portRunsUptoRow : OpenClaim := { program := "ytlkaolahadcjbaa", sum := "dc4a967a4a6ef05dafd7c8808b2950b41874a05674a0a516fbe33a1aa105dca7", func := "garrison/garrisonlaw16.PortRuns", spec := "portRuns", unfollowed := true, recurses := true, apart := false, narrowed := true }
def PortRunsUptoSaid : Prop := portRunsUptoRow.holds Try.pinned (OpenSpec.upto portRunsSpec)

/-- 'garrisonlaw16.PortFirst', WHERE WHAT IT READS IS OF BULK AT MOST 1048576: true; the input reads as it did. -/
def portFirstUptoRow : OpenClaim := { program := "ytlkaolahadcjbaa", sum := "dc4a967a4a6ef05dafd7c8808b2950b41874a05674a0a516fbe33a1aa105dca7", func := "garrison/garrisonlaw16.PortFirst", spec := "portFirst", unfollowed := true, recurses := true, apart := false, narrowed := true }
def PortFirstUptoSaid : Prop := portFirstUptoRow.holds Try.pinned (OpenSpec.upto portFirstSpec)

/-- 'garrisonlaw16.PortBits', WHERE WHAT IT READS IS OF BULK AT MOST 1048576: true; the input reads as it did. -/
def portBitsUptoRow : OpenClaim := { program := "ytlkaolahadcjbaa", sum := "dc4a967a4a6ef05dafd7c8808b2950b41874a05674a0a516fbe33a1aa105dca7", func := "garrison/garrisonlaw16.PortBits", spec := "portBits", unfollowed := true, recurses := true, apart := false, narrowed := true }
def PortBitsUptoSaid : Prop := portBitsUptoRow.holds Try.pinned (OpenSpec.upto portBitsSpec)

/-- 'garrisonlaw16.PortDrops', WHERE WHAT IT READS IS OF BULK AT MOST 1048576: true; the input reads as it did. -/
def portDropsUptoRow : OpenClaim := { program := "ytlkaolahadcjbaa", sum := "dc4a967a4a6ef05dafd7c8808b2950b41874a05674a0a516fbe33a1aa105dca7", func := "garrison/garrisonlaw16.PortDrops", spec := "portDrops", unfollowed := true, recurses := true, apart := false, narrowed := true }
def PortDropsUptoSaid : Prop := portDropsUptoRow.holds Try.pinned (OpenSpec.upto portDropsSpec)

/-- 'garrisonlaw16.PortTurns', WHERE WHAT IT READS IS OF BULK AT MOST 1048576: true; the input reads as it did. -/
def portTurnsUptoRow : OpenClaim := { program := "ytlkaolahadcjbaa", sum := "dc4a967a4a6ef05dafd7c8808b2950b41874a05674a0a516fbe33a1aa105dca7", func := "garrison/garrisonlaw16.PortTurns", spec := "portTurns", unfollowed := true, recurses := true, apart := false, narrowed := true }
def PortTurnsUptoSaid : Prop := portTurnsUptoRow.holds Try.pinned (OpenSpec.upto portTurnsSpec)

/-- 'garrisonlaw16.PortMany', WHERE WHAT IT READS IS OF BULK AT MOST 1048576: true; the input reads as it did. -/
def portManyUptoRow : OpenClaim := { program := "ytlkaolahadcjbaa", sum := "dc4a967a4a6ef05dafd7c8808b2950b41874a05674a0a516fbe33a1aa105dca7", func := "garrison/garrisonlaw16.PortMany", spec := "portMany", unfollowed := true, recurses := true, apart := false, narrowed := true }
def PortManyUptoSaid : Prop := portManyUptoRow.holds Try.pinned (OpenSpec.upto portManySpec)

end Rows
end Go.Proofs.Ytlkaolahadcjbaa
