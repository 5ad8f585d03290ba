/-
  Own work: printed by Tell, a program of this work: what each function's body does over symbols.
-/
import Derived.Test.YtjjchnnnchccgaaCfg
import Derived.KernelRfl
namespace Go.AI
open Go
set_option maxRecDepth 100000
set_option linter.unusedVariables false
set_option linter.unusedSimpArgs false
/-! garrison/garrisonlaw13.TreeSteps -/
namespace law13_TreeSteps
abbrev sh : List Sh := [.one (.bool)]
noncomputable abbrev R (a0 : List (List DV)) (a1 : List (List DV)) (a2_0 : Int) (a2_1 : Int) (a2_2 : Int) (a2_3 : Int) (a2_4 : Int) (a2_5 : Bool) : Option (Bool × Unit) := retω cfg sh 8 [(AV.d (DV.lst 4 a0)), (AV.d (DV.lst 4 a1)), (AV.agg [(AV.d (DV.v (Value.int IntKind.i64 a2_0))), (AV.d (DV.v (Value.int IntKind.i64 a2_1))), (AV.d (DV.v (Value.int IntKind.i64 a2_2))), (AV.d (DV.v (Value.int IntKind.i64 a2_3))), (AV.d (DV.v (Value.int IntKind.i64 a2_4))), (AV.d (DV.v (Value.bool a2_5)))])]
end law13_TreeSteps
/-! garrison/garrisonlaw13.TreeTells -/
namespace law13_TreeTells
abbrev sh : List Sh := [.one (.bool)]
noncomputable abbrev R (a0 : List (List DV)) (a1_0 : Int) (a1_1 : Int) (a2_0 : Int) (a2_1 : Int) : Option (Bool × Unit) := retω cfg sh 9 [(AV.d (DV.lst 4 a0)), (AV.agg [(AV.d (DV.v (Value.int IntKind.i64 a1_0))), (AV.d (DV.v (Value.int IntKind.i64 a1_1)))]), (AV.agg [(AV.d (DV.v (Value.int IntKind.i64 a2_0))), (AV.d (DV.v (Value.int IntKind.i64 a2_1)))])]
end law13_TreeTells
/-! garrison/garrisonlaw13.TreeRuns -/
namespace law13_TreeRuns
abbrev sh : List Sh := [.one (.bool)]
noncomputable abbrev R (a0 : List (List DV)) : Option (Bool × Unit) := retω cfg sh 10 [(AV.d (DV.lst 6 a0))]
end law13_TreeRuns
/-! garrison/garrisonlaw13.TreeBack -/
namespace law13_TreeBack
abbrev sh : List Sh := [.one (.bool)]
noncomputable abbrev R (a0 : List (List DV)) (a1_0 : Int) (a1_1 : Int) (a2_0 : Int) (a2_1 : Int) (a3_0 : Int) (a3_1 : Int) : Option (Bool × Unit) := retω cfg sh 11 [(AV.d (DV.lst 6 a0)), (AV.agg [(AV.d (DV.v (Value.int IntKind.i64 a1_0))), (AV.d (DV.v (Value.int IntKind.i64 a1_1)))]), (AV.agg [(AV.d (DV.v (Value.int IntKind.i64 a2_0))), (AV.d (DV.v (Value.int IntKind.i64 a2_1)))]), (AV.agg [(AV.d (DV.v (Value.int IntKind.i64 a3_0))), (AV.d (DV.v (Value.int IntKind.i64 a3_1)))])]
end law13_TreeBack
/-! garrison/garrisonlaw13.TreeOrder -/
namespace law13_TreeOrder
abbrev sh : List Sh := [.one (.bool)]
noncomputable abbrev R (a0 : List (List DV)) (a1_0 : Int) (a1_1 : Int) (a2_0 : Int) (a2_1 : Int) (a3_0 : Int) (a3_1 : Int) : Option (Bool × Unit) := retω cfg sh 12 [(AV.d (DV.lst 6 a0)), (AV.agg [(AV.d (DV.v (Value.int IntKind.i64 a1_0))), (AV.d (DV.v (Value.int IntKind.i64 a1_1)))]), (AV.agg [(AV.d (DV.v (Value.int IntKind.i64 a2_0))), (AV.d (DV.v (Value.int IntKind.i64 a2_1)))]), (AV.agg [(AV.d (DV.v (Value.int IntKind.i64 a3_0))), (AV.d (DV.v (Value.int IntKind.i64 a3_1)))])]
end law13_TreeOrder
/-! garrison/garrisonlaw13.TreeMoves -/
namespace law13_TreeMoves
abbrev sh : List Sh := [.one (.bool)]
noncomputable abbrev R (a0 : List (List DV)) (a1_0 : Int) (a1_1 : Int) (a2_0 : Int) (a2_1 : Int) (a3_0 : Int) (a3_1 : Int) (a4_0 : Int) (a4_1 : Int) : Option (Bool × Unit) := retω cfg sh 13 [(AV.d (DV.lst 6 a0)), (AV.agg [(AV.d (DV.v (Value.int IntKind.i64 a1_0))), (AV.d (DV.v (Value.int IntKind.i64 a1_1)))]), (AV.agg [(AV.d (DV.v (Value.int IntKind.i64 a2_0))), (AV.d (DV.v (Value.int IntKind.i64 a2_1)))]), (AV.agg [(AV.d (DV.v (Value.int IntKind.i64 a3_0))), (AV.d (DV.v (Value.int IntKind.i64 a3_1)))]), (AV.agg [(AV.d (DV.v (Value.int IntKind.i64 a4_0))), (AV.d (DV.v (Value.int IntKind.i64 a4_1)))])]
end law13_TreeMoves
/-! garrison/garrisonlaw13.TreeCounts -/
namespace law13_TreeCounts
abbrev sh : List Sh := [.one (.bool)]
noncomputable abbrev R (a0 : List (List DV)) (a1_0 : Int) (a1_1 : Int) : Option (Bool × Unit) := retω cfg sh 14 [(AV.d (DV.lst 6 a0)), (AV.agg [(AV.d (DV.v (Value.int IntKind.i64 a1_0))), (AV.d (DV.v (Value.int IntKind.i64 a1_1)))])]
end law13_TreeCounts
/-! garrison/garrisonlaw13.TreeMany -/
namespace law13_TreeMany
abbrev sh : List Sh := [.one (.bool)]
noncomputable abbrev R (a0 : Int) : Option (Bool × Unit) := retω cfg sh 15 [(AV.d (DV.v (Value.int IntKind.i64 a0)))]
end law13_TreeMany
/-! garrison/garrisonlaw13.live -/
namespace law13_live
abbrev sh : List Sh := [.one (.bool)]
noncomputable abbrev R : Option (Bool × Unit) := retω cfg sh 31 []
end law13_live
/-! garrison/garrisonlaw13.does -/
namespace law13_does
abbrev sh : List Sh := [.one (.lst 4), .one (.int .i64)]
noncomputable abbrev R (a0 : List (List DV)) (a1_0 : Int) (a1_1 : Int) (a1_2 : Int) (a1_3 : Int) (a1_4 : Int) (a1_5 : Bool) : Option (List (List DV) × (Int × Unit)) := retω cfg sh 32 [(AV.d (DV.lst 4 a0)), (AV.agg [(AV.d (DV.v (Value.int IntKind.i64 a1_0))), (AV.d (DV.v (Value.int IntKind.i64 a1_1))), (AV.d (DV.v (Value.int IntKind.i64 a1_2))), (AV.d (DV.v (Value.int IntKind.i64 a1_3))), (AV.d (DV.v (Value.int IntKind.i64 a1_4))), (AV.d (DV.v (Value.bool a1_5)))])]
end law13_does
/-! garrison/garrisonlaw13.model -/
namespace law13_model
abbrev sh : List Sh := [.one (.lst 4), .one (.int .i64)]
noncomputable abbrev R (a0 : List (List DV)) (a1_0 : Int) (a1_1 : Int) (a1_2 : Int) (a1_3 : Int) (a1_4 : Int) (a1_5 : Bool) : Option (List (List DV) × (Int × Unit)) := retω cfg sh 33 [(AV.d (DV.lst 4 a0)), (AV.agg [(AV.d (DV.v (Value.int IntKind.i64 a1_0))), (AV.d (DV.v (Value.int IntKind.i64 a1_1))), (AV.d (DV.v (Value.int IntKind.i64 a1_2))), (AV.d (DV.v (Value.int IntKind.i64 a1_3))), (AV.d (DV.v (Value.int IntKind.i64 a1_4))), (AV.d (DV.v (Value.bool a1_5)))])]
end law13_model
/-! garrison/garrisonref13.Same -/
namespace ref13_Same
abbrev sh : List Sh := [.one (.bool)]
noncomputable abbrev R (a0 : List (List DV)) (a1 : List (List DV)) : Option (Bool × Unit) := retω cfg sh 34 [(AV.d (DV.lst 4 a0)), (AV.d (DV.lst 4 a1))]
end ref13_Same
/-! garrison/tree.Check -/
namespace tree_Check
abbrev sh : List Sh := [.one (.int .i64)]
noncomputable abbrev R (a0 : List (List DV)) : Option (Int × Unit) := retω cfg sh 36 [(AV.d (DV.lst 4 a0))]
end tree_Check
/-! garrison/garrisonlaw13.num -/
namespace law13_num
abbrev sh : List Sh := [.one (.int .i64)]
noncomputable abbrev R (a0 : Int) : Option (Int × Unit) := retω cfg sh 35 [(AV.d (DV.v (Value.int IntKind.i64 a0)))]
end law13_num
/-! garrison/garrisonref13.Is -/
namespace ref13_Is
abbrev sh : List Sh := [.one (.bool)]
noncomputable abbrev R (a0 : List (List DV)) : Option (Bool × Unit) := retω cfg sh 37 [(AV.d (DV.lst 4 a0))]
end ref13_Is
/-! garrison/tree.Same -/
namespace tree_Same
abbrev sh : List Sh := [.one (.bool)]
noncomputable abbrev R (a0 : List (List DV)) (a1 : List (List DV)) : Option (Bool × Unit) := retω cfg sh 38 [(AV.d (DV.lst 4 a0)), (AV.d (DV.lst 4 a1))]
end tree_Same
/-! garrison/tree.Find -/
namespace tree_Find
abbrev sh : List Sh := [.one (.int .i64), .one (.bool)]
noncomputable abbrev R (a0 : List (List DV)) (a1_0 : Int) (a1_1 : Int) : Option (Int × (Bool × Unit)) := retω cfg sh 39 [(AV.d (DV.lst 4 a0)), (AV.agg [(AV.d (DV.v (Value.int IntKind.i64 a1_0))), (AV.d (DV.v (Value.int IntKind.i64 a1_1)))])]
end tree_Find
/-! garrison/garrisonref13.Find -/
namespace ref13_Find
abbrev sh : List Sh := [.one (.int .i64), .one (.bool)]
noncomputable abbrev R (a0 : List (List DV)) (a1_0 : Int) (a1_1 : Int) : Option (Int × (Bool × Unit)) := retω cfg sh 40 [(AV.d (DV.lst 4 a0)), (AV.agg [(AV.d (DV.v (Value.int IntKind.i64 a1_0))), (AV.d (DV.v (Value.int IntKind.i64 a1_1)))])]
end ref13_Find
/-! garrison/tree.Parent -/
namespace tree_Parent
abbrev sh : List Sh := [.agg [.int .i64, .int .i64], .one (.bool)]
noncomputable abbrev R (a0 : List (List DV)) (a1_0 : Int) (a1_1 : Int) : Option ((Int × (Int × Unit)) × (Bool × Unit)) := retω cfg sh 41 [(AV.d (DV.lst 4 a0)), (AV.agg [(AV.d (DV.v (Value.int IntKind.i64 a1_0))), (AV.d (DV.v (Value.int IntKind.i64 a1_1)))])]
end tree_Parent
/-! garrison/garrisonref13.Parent -/
namespace ref13_Parent
abbrev sh : List Sh := [.agg [.int .i64, .int .i64], .one (.bool)]
noncomputable abbrev R (a0 : List (List DV)) (a1_0 : Int) (a1_1 : Int) : Option ((Int × (Int × Unit)) × (Bool × Unit)) := retω cfg sh 42 [(AV.d (DV.lst 4 a0)), (AV.agg [(AV.d (DV.v (Value.int IntKind.i64 a1_0))), (AV.d (DV.v (Value.int IntKind.i64 a1_1)))])]
end ref13_Parent
/-! garrison/tree.Below -/
namespace tree_Below
abbrev sh : List Sh := [.one (.lst 2)]
noncomputable abbrev R (a0 : List (List DV)) (a1_0 : Int) (a1_1 : Int) : Option (List (List DV) × Unit) := retω cfg sh 44 [(AV.d (DV.lst 4 a0)), (AV.agg [(AV.d (DV.v (Value.int IntKind.i64 a1_0))), (AV.d (DV.v (Value.int IntKind.i64 a1_1)))])]
end tree_Below
/-! garrison/garrisonref13.Below -/
namespace ref13_Below
abbrev sh : List Sh := [.one (.lst 2)]
noncomputable abbrev R (a0 : List (List DV)) (a1_0 : Int) (a1_1 : Int) : Option (List (List DV) × Unit) := retω cfg sh 45 [(AV.d (DV.lst 4 a0)), (AV.agg [(AV.d (DV.v (Value.int IntKind.i64 a1_0))), (AV.d (DV.v (Value.int IntKind.i64 a1_1)))])]
end ref13_Below
/-! garrison/garrisonref06.Same -/
namespace ref06_Same
abbrev sh : List Sh := [.one (.bool)]
noncomputable abbrev R (a0 : List (List DV)) (a1 : List (List DV)) : Option (Bool × Unit) := retω cfg sh 43 [(AV.d (DV.lst 2 a0)), (AV.d (DV.lst 2 a1))]
end ref06_Same
/-! garrison/tree.Descends -/
namespace tree_Descends
abbrev sh : List Sh := [.one (.bool)]
noncomputable abbrev R (a0 : List (List DV)) (a1_0 : Int) (a1_1 : Int) (a2_0 : Int) (a2_1 : Int) : Option (Bool × Unit) := retω cfg sh 46 [(AV.d (DV.lst 4 a0)), (AV.agg [(AV.d (DV.v (Value.int IntKind.i64 a1_0))), (AV.d (DV.v (Value.int IntKind.i64 a1_1)))]), (AV.agg [(AV.d (DV.v (Value.int IntKind.i64 a2_0))), (AV.d (DV.v (Value.int IntKind.i64 a2_1)))])]
end tree_Descends
/-! garrison/garrisonref13.Descends -/
namespace ref13_Descends
abbrev sh : List Sh := [.one (.bool)]
noncomputable abbrev R (a0 : List (List DV)) (a1_0 : Int) (a1_1 : Int) (a2_0 : Int) (a2_1 : Int) : Option (Bool × Unit) := retω cfg sh 47 [(AV.d (DV.lst 4 a0)), (AV.agg [(AV.d (DV.v (Value.int IntKind.i64 a1_0))), (AV.d (DV.v (Value.int IntKind.i64 a1_1)))]), (AV.agg [(AV.d (DV.v (Value.int IntKind.i64 a2_0))), (AV.d (DV.v (Value.int IntKind.i64 a2_1)))])]
end ref13_Descends
/-! garrison/garrisonlaw13.grown -/
namespace law13_grown
abbrev sh : List Sh := [.one (.lst 4)]
noncomputable abbrev R (a0 : List (List DV)) : Option (List (List DV) × Unit) := retω cfg sh 48 [(AV.d (DV.lst 6 a0))]
end law13_grown
/-! garrison/tree.Insert -/
namespace tree_Insert
abbrev sh : List Sh := [.one (.lst 4), .one (.int .i64)]
noncomputable abbrev R (a0 : List (List DV)) (a1_0 : Int) (a1_1 : Int) (a2_0 : Int) (a2_1 : Int) : Option (List (List DV) × (Int × Unit)) := retω cfg sh 49 [(AV.d (DV.lst 4 a0)), (AV.agg [(AV.d (DV.v (Value.int IntKind.i64 a1_0))), (AV.d (DV.v (Value.int IntKind.i64 a1_1)))]), (AV.agg [(AV.d (DV.v (Value.int IntKind.i64 a2_0))), (AV.d (DV.v (Value.int IntKind.i64 a2_1)))])]
end tree_Insert
/-! garrison/tree.Remove -/
namespace tree_Remove
abbrev sh : List Sh := [.one (.lst 4), .one (.int .i64)]
noncomputable abbrev R (a0 : List (List DV)) (a1_0 : Int) (a1_1 : Int) : Option (List (List DV) × (Int × Unit)) := retω cfg sh 50 [(AV.d (DV.lst 4 a0)), (AV.agg [(AV.d (DV.v (Value.int IntKind.i64 a1_0))), (AV.d (DV.v (Value.int IntKind.i64 a1_1)))])]
end tree_Remove
/-! garrison/tree.Move -/
namespace tree_Move
abbrev sh : List Sh := [.one (.lst 4), .one (.int .i64)]
noncomputable abbrev R (a0 : List (List DV)) (a1_0 : Int) (a1_1 : Int) (a2_0 : Int) (a2_1 : Int) : Option (List (List DV) × (Int × Unit)) := retω cfg sh 51 [(AV.d (DV.lst 4 a0)), (AV.agg [(AV.d (DV.v (Value.int IntKind.i64 a1_0))), (AV.d (DV.v (Value.int IntKind.i64 a1_1)))]), (AV.agg [(AV.d (DV.v (Value.int IntKind.i64 a2_0))), (AV.d (DV.v (Value.int IntKind.i64 a2_1)))])]
end tree_Move
/-! garrison/tree.Mark -/
namespace tree_Mark
abbrev sh : List Sh := [.one (.lst 4), .one (.int .i64)]
noncomputable abbrev R (a0 : List (List DV)) (a1_0 : Int) (a1_1 : Int) (a2 : Bool) : Option (List (List DV) × (Int × Unit)) := retω cfg sh 52 [(AV.d (DV.lst 4 a0)), (AV.agg [(AV.d (DV.v (Value.int IntKind.i64 a1_0))), (AV.d (DV.v (Value.int IntKind.i64 a1_1)))]), (AV.d (DV.v (Value.bool a2)))]
end tree_Mark
/-! garrison/tree.Root -/
namespace tree_Root
abbrev sh : List Sh := [.one (.lst 4), .one (.int .i64)]
noncomputable abbrev R (a0 : List (List DV)) (a1_0 : Int) (a1_1 : Int) : Option (List (List DV) × (Int × Unit)) := retω cfg sh 53 [(AV.d (DV.lst 4 a0)), (AV.agg [(AV.d (DV.v (Value.int IntKind.i64 a1_0))), (AV.d (DV.v (Value.int IntKind.i64 a1_1)))])]
end tree_Root
/-! garrison/garrisonref13.Root -/
namespace ref13_Root
abbrev sh : List Sh := [.one (.lst 4), .one (.int .i64)]
noncomputable abbrev R (a0 : List (List DV)) (a1_0 : Int) (a1_1 : Int) : Option (List (List DV) × (Int × Unit)) := retω cfg sh 70 [(AV.d (DV.lst 4 a0)), (AV.agg [(AV.d (DV.v (Value.int IntKind.i64 a1_0))), (AV.d (DV.v (Value.int IntKind.i64 a1_1)))])]
end ref13_Root
/-! garrison/garrisonref13.Insert -/
namespace ref13_Insert
abbrev sh : List Sh := [.one (.lst 4), .one (.int .i64)]
noncomputable abbrev R (a0 : List (List DV)) (a1_0 : Int) (a1_1 : Int) (a2_0 : Int) (a2_1 : Int) : Option (List (List DV) × (Int × Unit)) := retω cfg sh 71 [(AV.d (DV.lst 4 a0)), (AV.agg [(AV.d (DV.v (Value.int IntKind.i64 a1_0))), (AV.d (DV.v (Value.int IntKind.i64 a1_1)))]), (AV.agg [(AV.d (DV.v (Value.int IntKind.i64 a2_0))), (AV.d (DV.v (Value.int IntKind.i64 a2_1)))])]
end ref13_Insert
/-! garrison/garrisonref13.Remove -/
namespace ref13_Remove
abbrev sh : List Sh := [.one (.lst 4), .one (.int .i64)]
noncomputable abbrev R (a0 : List (List DV)) (a1_0 : Int) (a1_1 : Int) : Option (List (List DV) × (Int × Unit)) := retω cfg sh 72 [(AV.d (DV.lst 4 a0)), (AV.agg [(AV.d (DV.v (Value.int IntKind.i64 a1_0))), (AV.d (DV.v (Value.int IntKind.i64 a1_1)))])]
end ref13_Remove
/-! garrison/garrisonref13.Move -/
namespace ref13_Move
abbrev sh : List Sh := [.one (.lst 4), .one (.int .i64)]
noncomputable abbrev R (a0 : List (List DV)) (a1_0 : Int) (a1_1 : Int) (a2_0 : Int) (a2_1 : Int) : Option (List (List DV) × (Int × Unit)) := retω cfg sh 73 [(AV.d (DV.lst 4 a0)), (AV.agg [(AV.d (DV.v (Value.int IntKind.i64 a1_0))), (AV.d (DV.v (Value.int IntKind.i64 a1_1)))]), (AV.agg [(AV.d (DV.v (Value.int IntKind.i64 a2_0))), (AV.d (DV.v (Value.int IntKind.i64 a2_1)))])]
end ref13_Move
/-! garrison/garrisonref13.Mark -/
namespace ref13_Mark
abbrev sh : List Sh := [.one (.lst 4), .one (.int .i64)]
noncomputable abbrev R (a0 : List (List DV)) (a1_0 : Int) (a1_1 : Int) (a2 : Bool) : Option (List (List DV) × (Int × Unit)) := retω cfg sh 74 [(AV.d (DV.lst 4 a0)), (AV.agg [(AV.d (DV.v (Value.int IntKind.i64 a1_0))), (AV.d (DV.v (Value.int IntKind.i64 a1_1)))]), (AV.d (DV.v (Value.bool a2)))]
end ref13_Mark
/-! garrison/order.Check -/
namespace order_Check
abbrev sh : List Sh := [.one (.int .i64)]
noncomputable abbrev R (a0_0 : Int) (a0_1 : Int) : Option (Int × Unit) := retω cfg sh 65 [(AV.agg [(AV.d (DV.v (Value.int IntKind.i64 a0_0))), (AV.d (DV.v (Value.int IntKind.i64 a0_1)))])]
end order_Check
/-! garrison/garrisonref06.Is -/
namespace ref06_Is
abbrev sh : List Sh := [.one (.bool)]
noncomputable abbrev R (a0_0 : Int) (a0_1 : Int) : Option (Bool × Unit) := retω cfg sh 63 [(AV.agg [(AV.d (DV.v (Value.int IntKind.i64 a0_0))), (AV.d (DV.v (Value.int IntKind.i64 a0_1)))])]
end ref06_Is
/-! slices.Equal[[]garrison/api.Branch,garrison/api.Branch] -/
namespace slices_Equal_api_Branch_api_Branch
abbrev sh : List Sh := [.one (.bool)]
noncomputable abbrev R (a0 : List (List DV)) (a1 : List (List DV)) : Option (Bool × Unit) := retω cfg sh 75 [(AV.d (DV.lst 4 a0)), (AV.d (DV.lst 4 a1))]
end slices_Equal_api_Branch_api_Branch
/-! slices.IndexFunc[[]garrison/api.Branch,garrison/api.Branch] -/
namespace slices_IndexFunc_api_Branch_api_Branch__tree_Find_1
abbrev sh : List Sh := [.one (.int .i64)]
noncomputable abbrev R (a0 : List (List DV)) (b0 : Int) (b0_1 : Int) : Option (Int × Unit) := ownT cfg sh 76 77 (DV.lst 4 a0) (VBlk.cell 2 0 [(AV.d (DV.v (Value.int IntKind.i64 b0))), (AV.d (DV.v (Value.int IntKind.i64 b0_1)))])
end slices_IndexFunc_api_Branch_api_Branch__tree_Find_1
/-! garrison/garrisonref13.count -/
namespace ref13_count
abbrev sh : List Sh := [.one (.int .i64)]
noncomputable abbrev R (a0 : List (List DV)) (a1 : Int) : Option (Int × Unit) := retω cfg sh 80 [(AV.d (DV.lst 4 a0)), (AV.d (DV.v (Value.int IntKind.i64 a1)))]
end ref13_count
/-! slices.Contains[[]garrison/api.Key,garrison/api.Key] -/
namespace slices_Contains_api_Key_api_Key
abbrev sh : List Sh := [.one (.bool)]
noncomputable abbrev R (a0 : List (List DV)) (a1_0 : Int) (a1_1 : Int) : Option (Bool × Unit) := retω cfg sh 81 [(AV.d (DV.lst 2 a0)), (AV.agg [(AV.d (DV.v (Value.int IntKind.i64 a1_0))), (AV.d (DV.v (Value.int IntKind.i64 a1_1)))])]
end slices_Contains_api_Key_api_Key
/-! garrison/garrisonref06.Has -/
namespace ref06_Has
abbrev sh : List Sh := [.one (.bool)]
noncomputable abbrev R (a0 : List (List DV)) (a1_0 : Int) (a1_1 : Int) : Option (Bool × Unit) := retω cfg sh 82 [(AV.d (DV.lst 2 a0)), (AV.agg [(AV.d (DV.v (Value.int IntKind.i64 a1_0))), (AV.d (DV.v (Value.int IntKind.i64 a1_1)))])]
end ref06_Has
/-! garrison/tree.right -/
namespace tree_right
abbrev sh : List Sh := [.one (.bool)]
noncomputable abbrev R (a0 : List (List DV)) (a1 : List (List DV)) : Option (Bool × Unit) := retω cfg sh 83 [(AV.d (DV.lst 4 a0)), (AV.d (DV.lst 2 a1))]
end tree_right
/-! garrison/tree.add -/
namespace tree_add
abbrev sh : List Sh := [.one (.lst 4), .one (.int .i64)]
noncomputable abbrev R (a0 : List (List DV)) (a1 : Int) (a2_0 : Int) (a2_1 : Int) (a2_2 : Int) (a2_3 : Bool) : Option (List (List DV) × (Int × Unit)) := retω cfg sh 84 [(AV.d (DV.lst 4 a0)), (AV.d (DV.v (Value.int IntKind.i64 a1))), (AV.agg [(AV.d (DV.v (Value.int IntKind.i64 a2_0))), (AV.d (DV.v (Value.int IntKind.i64 a2_1))), (AV.d (DV.v (Value.int IntKind.i64 a2_2))), (AV.d (DV.v (Value.bool a2_3)))])]
end tree_add
/-! garrison/tree.with -/
namespace tree_with
abbrev sh : List Sh := [.one (.lst 4)]
noncomputable abbrev R (a0 : List (List DV)) (a1 : Int) (a2_0 : Int) (a2_1 : Int) (a2_2 : Int) (a2_3 : Bool) : Option (List (List DV) × Unit) := retω cfg sh 85 [(AV.d (DV.lst 4 a0)), (AV.d (DV.v (Value.int IntKind.i64 a1))), (AV.agg [(AV.d (DV.v (Value.int IntKind.i64 a2_0))), (AV.d (DV.v (Value.int IntKind.i64 a2_1))), (AV.d (DV.v (Value.int IntKind.i64 a2_2))), (AV.d (DV.v (Value.bool a2_3)))])]
end tree_with
/-! garrison/garrisonref13.put -/
namespace ref13_put
abbrev sh : List Sh := [.one (.lst 4)]
noncomputable abbrev R (a0 : List (List DV)) (a1 : Int) (a2_0 : Int) (a2_1 : Int) (a2_2 : Int) (a2_3 : Bool) : Option (List (List DV) × Unit) := retω cfg sh 87 [(AV.d (DV.lst 4 a0)), (AV.d (DV.v (Value.int IntKind.i64 a1))), (AV.agg [(AV.d (DV.v (Value.int IntKind.i64 a2_0))), (AV.d (DV.v (Value.int IntKind.i64 a2_1))), (AV.d (DV.v (Value.int IntKind.i64 a2_2))), (AV.d (DV.v (Value.bool a2_3)))])]
end ref13_put
/-! garrison/garrisonref13.out -/
namespace ref13_out
abbrev sh : List Sh := [.one (.lst 4)]
noncomputable abbrev R (a0 : List (List DV)) (a1 : Int) : Option (List (List DV) × Unit) := retω cfg sh 88 [(AV.d (DV.lst 4 a0)), (AV.d (DV.v (Value.int IntKind.i64 a1)))]
end ref13_out
/-! slices.Index[[]garrison/api.Key,garrison/api.Key] -/
namespace slices_Index_api_Key_api_Key
abbrev sh : List Sh := [.one (.int .i64)]
noncomputable abbrev R (a0 : List (List DV)) (a1_0 : Int) (a1_1 : Int) : Option (Int × Unit) := retω cfg sh 57 [(AV.d (DV.lst 2 a0)), (AV.agg [(AV.d (DV.v (Value.int IntKind.i64 a1_0))), (AV.d (DV.v (Value.int IntKind.i64 a1_1)))])]
end slices_Index_api_Key_api_Key
/-! slices.ContainsFunc[[]garrison/api.Key,garrison/api.Key] -/
namespace slices_ContainsFunc_api_Key_api_Key__tree_right_1
abbrev sh : List Sh := [.one (.bool)]
noncomputable abbrev R (a0 : List (List DV)) : Option (Bool × Unit) := retω cfg sh 92 [(AV.d (DV.lst 2 a0)), (AV.d (DV.fn 91 []))]
end slices_ContainsFunc_api_Key_api_Key__tree_right_1
/-! garrison/tree.put -/
namespace tree_put
abbrev sh : List Sh := [.one (.lst 4)]
noncomputable abbrev R (a0 : List (List DV)) (a1 : Int) (a2_0 : Int) (a2_1 : Int) (a2_2 : Int) (a2_3 : Bool) : Option (List (List DV) × Unit) := retω cfg sh 93 [(AV.d (DV.lst 4 a0)), (AV.d (DV.v (Value.int IntKind.i64 a1))), (AV.agg [(AV.d (DV.v (Value.int IntKind.i64 a2_0))), (AV.d (DV.v (Value.int IntKind.i64 a2_1))), (AV.d (DV.v (Value.int IntKind.i64 a2_2))), (AV.d (DV.v (Value.bool a2_3)))])]
end tree_put
/-! slices.IndexFunc[[]garrison/api.Key,garrison/api.Key] -/
namespace slices_IndexFunc_api_Key_api_Key__tree_right_1
abbrev sh : List Sh := [.one (.int .i64)]
noncomputable abbrev R (a0 : List (List DV)) : Option (Int × Unit) := retω cfg sh 95 [(AV.d (DV.lst 2 a0)), (AV.d (DV.fn 91 []))]
end slices_IndexFunc_api_Key_api_Key__tree_right_1
/-! garrison/tree.right$1 -/
namespace tree_right_1
abbrev sh : List Sh := [.one (.bool)]
noncomputable abbrev R (a0_0 : Int) (a0_1 : Int) : Option (Bool × Unit) := retω cfg sh 91 [(AV.agg [(AV.d (DV.v (Value.int IntKind.i64 a0_0))), (AV.d (DV.v (Value.int IntKind.i64 a0_1)))])]
end tree_right_1
/-! garrison/garrisonlaw13.TreeSteps -/
namespace law13_TreeSteps
def lv : Live := []
theorem start (a0 : List (List DV)) (a1 : List (List DV)) (a2_0 : Int) (a2_1 : Int) (a2_2 : Int) (a2_3 : Int) (a2_4 : Int) (a2_5 : Bool) (c : (Bool × Unit)) (h :
    cond (decide (((((a0).length : Nat) : Int) > (60 : Int)))) (
      optAll (law13_live.R) fun (c0 : (Bool × Unit)) =>
      c = ((c0).1, ())) (
      cond (decide (((((a1).length : Nat) : Int) > (60 : Int)))) (
        optAll (law13_live.R) fun (c1 : (Bool × Unit)) =>
        c = ((c1).1, ())) (
        needs ((((a0).length * 32) ≤ 140737488355328) ∧ (((a0).length * 4) ≤ 140737488355328)) (
        optAll (law13_does.R ((a0).take ((a0).length)) a2_0 a2_1 a2_2 a2_3 a2_4 a2_5) fun (c2 : (List (List DV) × (Int × Unit))) =>
        optAll (law13_model.R a0 a2_0 a2_1 a2_2 a2_3 a2_4 a2_5) fun (c3 : (List (List DV) × (Int × Unit))) =>
        optAll (ref13_Same.R (c2).1 (c3).1) fun (c4 : (Bool × Unit)) =>
        cond ((c4).1) (
          cond ((((c2).2).1 == ((c3).2).1)) (
            optAll (tree_Check.R a0) fun (c5 : (Int × Unit)) =>
            optAll (law13_num.R (c5).1) fun (c6 : (Int × Unit)) =>
            optAll (ref13_Is.R a0) fun (c7 : (Bool × Unit)) =>
            cond ((((c6).1 == (0 : Int)) == (c7).1)) (
              optAll (tree_Same.R a0 a1) fun (c8 : (Bool × Unit)) =>
              optAll (ref13_Same.R a0 a1) fun (c9 : (Bool × Unit)) =>
              cond (((c8).1 == (c9).1)) (
                optAll (ref13_Same.R ((a0).take ((a0).length)) a0) fun (c10 : (Bool × Unit)) =>
                cond ((c10).1) (
                  optAll (law13_live.R) fun (c11 : (Bool × Unit)) =>
                  c = ((c11).1, ())) (
                  c = (false, ()))) (
                c = (false, ()))) (
              c = (false, ()))) (
            c = (false, ()))) (
          c = (false, ())))))) : R a0 a1 a2_0 a2_1 a2_2 a2_3 a2_4 a2_5 = some c := start_rule (n := 400) (lv := lv) (noSum_ok _) (by kernel_rfl) h
end law13_TreeSteps
/-! garrison/garrisonlaw13.TreeTells -/
namespace law13_TreeTells
def lv : Live := []
theorem start (a0 : List (List DV)) (a1_0 : Int) (a1_1 : Int) (a2_0 : Int) (a2_1 : Int) (c : (Bool × Unit)) (h :
    cond (decide (((((a0).length : Nat) : Int) > (60 : Int)))) (
      optAll (law13_live.R) fun (c0 : (Bool × Unit)) =>
      c = ((c0).1, ())) (
      optAll (tree_Find.R a0 a1_0 a1_1) fun (c1 : (Int × (Bool × Unit))) =>
      optAll (ref13_Find.R a0 a1_0 a1_1) fun (c2 : (Int × (Bool × Unit))) =>
      optAll (tree_Parent.R a0 a1_0 a1_1) fun (c3 : ((Int × (Int × Unit)) × (Bool × Unit))) =>
      optAll (ref13_Parent.R a0 a1_0 a1_1) fun (c4 : ((Int × (Int × Unit)) × (Bool × Unit))) =>
      cond (((c1).1 == (c2).1)) (
        cond ((((c1).2).1 == ((c2).2).1)) (
          cond (((((c3).1).1 == ((c4).1).1) && (((((c3).1).2).1 == (((c4).1).2).1) && true))) (
            cond ((((c3).2).1 == ((c4).2).1)) (
              optAll (tree_Below.R a0 a1_0 a1_1) fun (c5 : (List (List DV) × Unit)) =>
              optAll (ref13_Below.R a0 a1_0 a1_1) fun (c6 : (List (List DV) × Unit)) =>
              optAll (ref06_Same.R (c5).1 (c6).1) fun (c7 : (Bool × Unit)) =>
              cond ((c7).1) (
                optAll (tree_Descends.R a0 a1_0 a1_1 a2_0 a2_1) fun (c8 : (Bool × Unit)) =>
                optAll (ref13_Descends.R a0 a1_0 a1_1 a2_0 a2_1) fun (c9 : (Bool × Unit)) =>
                cond (((c8).1 == (c9).1)) (
                  optAll (law13_live.R) fun (c10 : (Bool × Unit)) =>
                  c = ((c10).1, ())) (
                  c = (false, ()))) (
                c = (false, ()))) (
              c = (false, ()))) (
            c = (false, ()))) (
          c = (false, ()))) (
        c = (false, ())))) : R a0 a1_0 a1_1 a2_0 a2_1 = some c := start_rule (n := 400) (lv := lv) (noSum_ok _) (by kernel_rfl) h
end law13_TreeTells
/-! garrison/garrisonlaw13.TreeRuns -/
namespace law13_TreeRuns
def lv : Live := [((6, 1048576), [0, 3, 4, 5], [])]
abbrev H6 (x0 : List (List DV)) (x3 : List (List DV)) (x4 : List (List DV)) (x5 : Int) (c : (Bool × Unit)) : Prop := HeadAns cfg 10 sh lv (bd cfg 10 [1, 1, 1, 0, 1, 0, 0]) 1048576 [.inBlock 0, .code (bd cfg 10 [1, 1, 1, 1])]
  [(AV.d (DV.lst 6 x0)), (AV.d (DV.lst 4 x3)), (AV.d (DV.lst 4 x4)), (AV.d (DV.v (Value.int IntKind.i64 x5)))] [] 1048576 c
theorem start (a0 : List (List DV)) (c : (Bool × Unit)) (h :
    cond (decide (((((a0).length : Nat) : Int) > (60 : Int)))) (
      optAll (law13_live.R) fun (c0 : (Bool × Unit)) =>
      c = ((c0).1, ())) (
      H6 a0 [] [] (0 : Int) c)) : R a0 = some c := start_rule (n := 400) (lv := lv) (noSum_ok _) (by kernel_rfl) h
theorem H6_step (x0 : List (List DV)) (x3 : List (List DV)) (x4 : List (List DV)) (x5 : Int) (c : (Bool × Unit)) (h :
    cond (decide ((x5 < (((x0).length : Nat) : Int)))) (
      needs ((0 : Int) ≤ x5) (
      optAll ((x0)[(Int.toNat x5)]?) fun (r1 : List DV) =>
      optAll ((dInt IntKind.i64 r1 0)) fun (z2 : Int) =>
      optAll ((dInt IntKind.i64 r1 1)) fun (z3 : Int) =>
      optAll ((dInt IntKind.i64 r1 2)) fun (z4 : Int) =>
      optAll ((dInt IntKind.i64 r1 3)) fun (z5 : Int) =>
      optAll ((dInt IntKind.i64 r1 4)) fun (z6 : Int) =>
      optAll ((dBool r1 5)) fun (z7 : Bool) =>
      optAll (law13_does.R x3 z2 z3 z4 z5 z6 z7) fun (c8 : (List (List DV) × (Int × Unit))) =>
      needs ((0 : Int) ≤ x5) (
      optAll ((x0)[(Int.toNat x5)]?) fun (r9 : List DV) =>
      optAll ((dInt IntKind.i64 r9 0)) fun (z10 : Int) =>
      optAll ((dInt IntKind.i64 r9 1)) fun (z11 : Int) =>
      optAll ((dInt IntKind.i64 r9 2)) fun (z12 : Int) =>
      optAll ((dInt IntKind.i64 r9 3)) fun (z13 : Int) =>
      optAll ((dInt IntKind.i64 r9 4)) fun (z14 : Int) =>
      optAll ((dBool r9 5)) fun (z15 : Bool) =>
      optAll (law13_model.R x4 z10 z11 z12 z13 z14 z15) fun (c16 : (List (List DV) × (Int × Unit))) =>
      optAll (ref13_Same.R (c8).1 (c16).1) fun (c17 : (Bool × Unit)) =>
      cond ((!(c17).1)) (
        c = (false, ())) (
        cond ((((c8).2).1 != ((c16).2).1)) (
          c = (false, ())) (
          optAll (tree_Check.R (c8).1) fun (c18 : (Int × Unit)) =>
          optAll (law13_num.R (c18).1) fun (c19 : (Int × Unit)) =>
          cond (((c19).1 != (0 : Int))) (
            c = (false, ())) (
            H6 x0 (c8).1 (c16).1 (IntKind.i64.wrap (x5 + (1 : Int))) c)))))) (
      optAll (law13_live.R) fun (c20 : (Bool × Unit)) =>
      c = ((c20).1, ()))) : H6 x0 x3 x4 x5 c := head_rule (n := 400) (noSum_ok _) (by kernel_rfl) h
end law13_TreeRuns
/-! garrison/garrisonlaw13.TreeBack -/
namespace law13_TreeBack
def lv : Live := []
theorem start (a0 : List (List DV)) (a1_0 : Int) (a1_1 : Int) (a2_0 : Int) (a2_1 : Int) (a3_0 : Int) (a3_1 : Int) (c : (Bool × Unit)) (h :
    cond (decide (((((a0).length : Nat) : Int) > (60 : Int)))) (
      optAll (law13_live.R) fun (c0 : (Bool × Unit)) =>
      c = ((c0).1, ())) (
      optAll (law13_grown.R a0) fun (c1 : (List (List DV) × Unit)) =>
      optAll (tree_Insert.R (c1).1 a1_0 a1_1 a2_0 a2_1) fun (c2 : (List (List DV) × (Int × Unit))) =>
      optAll (law13_num.R ((c2).2).1) fun (c3 : (Int × Unit)) =>
      cond (((c3).1 != (0 : Int))) (
        optAll (tree_Same.R (c1).1 (c2).1) fun (c4 : (Bool × Unit)) =>
        cond ((c4).1) (
          optAll (law13_live.R) fun (c5 : (Bool × Unit)) =>
          c = ((c5).1, ())) (
          c = (false, ()))) (
        optAll (tree_Parent.R (c2).1 a2_0 a2_1) fun (c6 : ((Int × (Int × Unit)) × (Bool × Unit))) =>
        optAll (tree_Remove.R (c2).1 a2_0 a2_1) fun (c7 : (List (List DV) × (Int × Unit))) =>
        cond ((!((c6).2).1)) (
          c = (false, ())) (
          cond ((!((((c6).1).1 == a1_0) && (((((c6).1).2).1 == a1_1) && true)))) (
            c = (false, ())) (
            optAll (law13_num.R ((c7).2).1) fun (c8 : (Int × Unit)) =>
            cond (((c8).1 != (0 : Int))) (
              c = (false, ())) (
              optAll (tree_Same.R (c7).1 (c1).1) fun (c9 : (Bool × Unit)) =>
              cond ((!(c9).1)) (
                c = (false, ())) (
                cond ((((((c2).1).length : Nat) : Int) != (IntKind.i64.wrap (((((c1).1).length : Nat) : Int) + (1 : Int))))) (
                  c = (false, ())) (
                  optAll (tree_Find.R (c1).1 a3_0 a3_1) fun (c10 : (Int × (Bool × Unit))) =>
                  cond (((c10).2).1) (
                    optAll (tree_Descends.R (c2).1 a2_0 a2_1 a3_0 a3_1) fun (c11 : (Bool × Unit)) =>
                    cond (((a3_0 == a1_0) && ((a3_1 == a1_1) && true))) (
                      cond ((!((c11).1 == true))) (
                        c = (false, ())) (
                        optAll (tree_Descends.R (c2).1 a3_0 a3_1 a2_0 a2_1) fun (c12 : (Bool × Unit)) =>
                        cond ((c12).1) (
                          c = (false, ())) (
                          optAll (law13_live.R) fun (c13 : (Bool × Unit)) =>
                          c = ((c13).1, ())))) (
                      optAll (tree_Descends.R (c1).1 a1_0 a1_1 a3_0 a3_1) fun (c14 : (Bool × Unit)) =>
                      cond ((!((c11).1 == (c14).1))) (
                        c = (false, ())) (
                        optAll (tree_Descends.R (c2).1 a3_0 a3_1 a2_0 a2_1) fun (c15 : (Bool × Unit)) =>
                        cond ((c15).1) (
                          c = (false, ())) (
                          optAll (law13_live.R) fun (c16 : (Bool × Unit)) =>
                          c = ((c16).1, ()))))) (
                    optAll (law13_live.R) fun (c17 : (Bool × Unit)) =>
                    c = ((c17).1, ())))))))))) : R a0 a1_0 a1_1 a2_0 a2_1 a3_0 a3_1 = some c := start_rule (n := 400) (lv := lv) (noSum_ok _) (by kernel_rfl) h
end law13_TreeBack
/-! garrison/garrisonlaw13.TreeOrder -/
namespace law13_TreeOrder
def lv : Live := []
theorem start (a0 : List (List DV)) (a1_0 : Int) (a1_1 : Int) (a2_0 : Int) (a2_1 : Int) (a3_0 : Int) (a3_1 : Int) (c : (Bool × Unit)) (h :
    cond (decide (((((a0).length : Nat) : Int) > (60 : Int)))) (
      optAll (law13_live.R) fun (c0 : (Bool × Unit)) =>
      c = ((c0).1, ())) (
      optAll (law13_grown.R a0) fun (c1 : (List (List DV) × Unit)) =>
      optAll (tree_Descends.R (c1).1 a1_0 a1_1 a1_0 a1_1) fun (c2 : (Bool × Unit)) =>
      cond ((c2).1) (
        c = (false, ())) (
        optAll (tree_Descends.R (c1).1 a1_0 a1_1 a2_0 a2_1) fun (c3 : (Bool × Unit)) =>
        cond ((c3).1) (
          optAll (tree_Descends.R (c1).1 a2_0 a2_1 a1_0 a1_1) fun (c4 : (Bool × Unit)) =>
          cond ((c4).1) (
            c = (false, ())) (
            optAll (tree_Descends.R (c1).1 a2_0 a2_1 a3_0 a3_1) fun (c5 : (Bool × Unit)) =>
            cond ((c5).1) (
              optAll (tree_Descends.R (c1).1 a1_0 a1_1 a3_0 a3_1) fun (c6 : (Bool × Unit)) =>
              cond ((!(c6).1)) (
                c = (false, ())) (
                optAll (tree_Parent.R (c1).1 a1_0 a1_1) fun (c7 : ((Int × (Int × Unit)) × (Bool × Unit))) =>
                cond ((!((c7).2).1)) (
                  optAll (tree_Descends.R (c1).1 a1_0 a1_1 a2_0 a2_1) fun (c8 : (Bool × Unit)) =>
                  cond ((!(c8).1)) (
                    optAll (law13_live.R) fun (c9 : (Bool × Unit)) =>
                    c = ((c9).1, ())) (
                    c = (false, ()))) (
                  optAll (tree_Descends.R (c1).1 a1_0 a1_1 ((c7).1).1 (((c7).1).2).1) fun (c10 : (Bool × Unit)) =>
                  cond ((c10).1) (
                    optAll (tree_Descends.R (c1).1 a1_0 a1_1 a2_0 a2_1) fun (c11 : (Bool × Unit)) =>
                    cond ((!(c11).1)) (
                      optAll (law13_live.R) fun (c12 : (Bool × Unit)) =>
                      c = ((c12).1, ())) (
                      cond (((a2_0 == ((c7).1).1) && ((a2_1 == (((c7).1).2).1) && true))) (
                        optAll (law13_live.R) fun (c13 : (Bool × Unit)) =>
                        c = ((c13).1, ())) (
                        optAll (tree_Descends.R (c1).1 ((c7).1).1 (((c7).1).2).1 a2_0 a2_1) fun (c14 : (Bool × Unit)) =>
                        cond ((c14).1) (
                          optAll (law13_live.R) fun (c15 : (Bool × Unit)) =>
                          c = ((c15).1, ())) (
                          c = (false, ()))))) (
                    c = (false, ()))))) (
              optAll (tree_Parent.R (c1).1 a1_0 a1_1) fun (c16 : ((Int × (Int × Unit)) × (Bool × Unit))) =>
              cond ((!((c16).2).1)) (
                optAll (tree_Descends.R (c1).1 a1_0 a1_1 a2_0 a2_1) fun (c17 : (Bool × Unit)) =>
                cond ((!(c17).1)) (
                  optAll (law13_live.R) fun (c18 : (Bool × Unit)) =>
                  c = ((c18).1, ())) (
                  c = (false, ()))) (
                optAll (tree_Descends.R (c1).1 a1_0 a1_1 ((c16).1).1 (((c16).1).2).1) fun (c19 : (Bool × Unit)) =>
                cond ((c19).1) (
                  optAll (tree_Descends.R (c1).1 a1_0 a1_1 a2_0 a2_1) fun (c20 : (Bool × Unit)) =>
                  cond ((!(c20).1)) (
                    optAll (law13_live.R) fun (c21 : (Bool × Unit)) =>
                    c = ((c21).1, ())) (
                    cond (((a2_0 == ((c16).1).1) && ((a2_1 == (((c16).1).2).1) && true))) (
                      optAll (law13_live.R) fun (c22 : (Bool × Unit)) =>
                      c = ((c22).1, ())) (
                      optAll (tree_Descends.R (c1).1 ((c16).1).1 (((c16).1).2).1 a2_0 a2_1) fun (c23 : (Bool × Unit)) =>
                      cond ((c23).1) (
                        optAll (law13_live.R) fun (c24 : (Bool × Unit)) =>
                        c = ((c24).1, ())) (
                        c = (false, ()))))) (
                  c = (false, ())))))) (
          optAll (tree_Parent.R (c1).1 a1_0 a1_1) fun (c25 : ((Int × (Int × Unit)) × (Bool × Unit))) =>
          cond ((!((c25).2).1)) (
            optAll (tree_Descends.R (c1).1 a1_0 a1_1 a2_0 a2_1) fun (c26 : (Bool × Unit)) =>
            cond ((!(c26).1)) (
              optAll (law13_live.R) fun (c27 : (Bool × Unit)) =>
              c = ((c27).1, ())) (
              c = (false, ()))) (
            optAll (tree_Descends.R (c1).1 a1_0 a1_1 ((c25).1).1 (((c25).1).2).1) fun (c28 : (Bool × Unit)) =>
            cond ((c28).1) (
              optAll (tree_Descends.R (c1).1 a1_0 a1_1 a2_0 a2_1) fun (c29 : (Bool × Unit)) =>
              cond ((!(c29).1)) (
                optAll (law13_live.R) fun (c30 : (Bool × Unit)) =>
                c = ((c30).1, ())) (
                cond (((a2_0 == ((c25).1).1) && ((a2_1 == (((c25).1).2).1) && true))) (
                  optAll (law13_live.R) fun (c31 : (Bool × Unit)) =>
                  c = ((c31).1, ())) (
                  optAll (tree_Descends.R (c1).1 ((c25).1).1 (((c25).1).2).1 a2_0 a2_1) fun (c32 : (Bool × Unit)) =>
                  cond ((c32).1) (
                    optAll (law13_live.R) fun (c33 : (Bool × Unit)) =>
                    c = ((c33).1, ())) (
                    c = (false, ()))))) (
              c = (false, ()))))))) : R a0 a1_0 a1_1 a2_0 a2_1 a3_0 a3_1 = some c := start_rule (n := 400) (lv := lv) (noSum_ok _) (by kernel_rfl) h
end law13_TreeOrder
/-! garrison/garrisonlaw13.TreeMoves -/
namespace law13_TreeMoves
def lv : Live := []
theorem start (a0 : List (List DV)) (a1_0 : Int) (a1_1 : Int) (a2_0 : Int) (a2_1 : Int) (a3_0 : Int) (a3_1 : Int) (a4_0 : Int) (a4_1 : Int) (c : (Bool × Unit)) (h :
    cond (decide (((((a0).length : Nat) : Int) > (60 : Int)))) (
      optAll (law13_live.R) fun (c0 : (Bool × Unit)) =>
      c = ((c0).1, ())) (
      optAll (law13_grown.R a0) fun (c1 : (List (List DV) × Unit)) =>
      optAll (tree_Move.R (c1).1 a1_0 a1_1 a2_0 a2_1) fun (c2 : (List (List DV) × (Int × Unit))) =>
      optAll (tree_Mark.R (c1).1 a3_0 a3_1 true) fun (c3 : (List (List DV) × (Int × Unit))) =>
      optAll (law13_num.R ((c3).2).1) fun (c4 : (Int × Unit)) =>
      cond (((c4).1 == (0 : Int))) (
        optAll (tree_Descends.R (c3).1 a3_0 a3_1 a4_0 a4_1) fun (c5 : (Bool × Unit)) =>
        optAll (tree_Descends.R (c1).1 a3_0 a3_1 a4_0 a4_1) fun (c6 : (Bool × Unit)) =>
        cond ((!((c5).1 == (c6).1))) (
          c = (false, ())) (
          optAll (law13_num.R ((c2).2).1) fun (c7 : (Int × Unit)) =>
          cond (((c7).1 != (0 : Int))) (
            optAll (law13_live.R) fun (c8 : (Bool × Unit)) =>
            c = ((c8).1, ())) (
            cond (((a3_0 == a2_0) && ((a3_1 == a2_1) && true))) (
              optAll (law13_live.R) fun (c9 : (Bool × Unit)) =>
              c = ((c9).1, ())) (
              cond (((a4_0 == a2_0) && ((a4_1 == a2_1) && true))) (
                optAll (law13_live.R) fun (c10 : (Bool × Unit)) =>
                c = ((c10).1, ())) (
                cond (((a3_0 == a1_0) && ((a3_1 == a1_1) && true))) (
                  cond (((a4_0 == a1_0) && ((a4_1 == a1_1) && true))) (
                    optAll (tree_Find.R (c2).1 a1_0 a1_1) fun (c11 : (Int × (Bool × Unit))) =>
                    cond ((!((c11).2).1)) (
                      optAll (tree_Descends.R (c2).1 a2_0 a2_1 a2_0 a2_1) fun (c12 : (Bool × Unit)) =>
                      optAll (tree_Descends.R (c1).1 a3_0 a3_1 a4_0 a4_1) fun (c13 : (Bool × Unit)) =>
                      cond (((c12).1 == (c13).1)) (
                        cond ((((((c2).1).length : Nat) : Int) == ((((c1).1).length : Nat) : Int))) (
                          optAll (law13_live.R) fun (c14 : (Bool × Unit)) =>
                          c = ((c14).1, ())) (
                          c = (false, ()))) (
                        c = (false, ()))) (
                      c = (false, ()))) (
                    optAll (tree_Find.R (c2).1 a1_0 a1_1) fun (c15 : (Int × (Bool × Unit))) =>
                    cond ((!((c15).2).1)) (
                      optAll (tree_Descends.R (c2).1 a2_0 a2_1 a4_0 a4_1) fun (c16 : (Bool × Unit)) =>
                      optAll (tree_Descends.R (c1).1 a3_0 a3_1 a4_0 a4_1) fun (c17 : (Bool × Unit)) =>
                      cond (((c16).1 == (c17).1)) (
                        cond ((((((c2).1).length : Nat) : Int) == ((((c1).1).length : Nat) : Int))) (
                          optAll (law13_live.R) fun (c18 : (Bool × Unit)) =>
                          c = ((c18).1, ())) (
                          c = (false, ()))) (
                        c = (false, ()))) (
                      c = (false, ())))) (
                  cond (((a4_0 == a1_0) && ((a4_1 == a1_1) && true))) (
                    optAll (tree_Find.R (c2).1 a1_0 a1_1) fun (c19 : (Int × (Bool × Unit))) =>
                    cond ((!((c19).2).1)) (
                      optAll (tree_Descends.R (c2).1 a3_0 a3_1 a2_0 a2_1) fun (c20 : (Bool × Unit)) =>
                      optAll (tree_Descends.R (c1).1 a3_0 a3_1 a4_0 a4_1) fun (c21 : (Bool × Unit)) =>
                      cond (((c20).1 == (c21).1)) (
                        cond ((((((c2).1).length : Nat) : Int) == ((((c1).1).length : Nat) : Int))) (
                          optAll (law13_live.R) fun (c22 : (Bool × Unit)) =>
                          c = ((c22).1, ())) (
                          c = (false, ()))) (
                        c = (false, ()))) (
                      c = (false, ()))) (
                    optAll (tree_Find.R (c2).1 a1_0 a1_1) fun (c23 : (Int × (Bool × Unit))) =>
                    cond ((!((c23).2).1)) (
                      optAll (tree_Descends.R (c2).1 a3_0 a3_1 a4_0 a4_1) fun (c24 : (Bool × Unit)) =>
                      optAll (tree_Descends.R (c1).1 a3_0 a3_1 a4_0 a4_1) fun (c25 : (Bool × Unit)) =>
                      cond (((c24).1 == (c25).1)) (
                        cond ((((((c2).1).length : Nat) : Int) == ((((c1).1).length : Nat) : Int))) (
                          optAll (law13_live.R) fun (c26 : (Bool × Unit)) =>
                          c = ((c26).1, ())) (
                          c = (false, ()))) (
                        c = (false, ()))) (
                      c = (false, ()))))))))) (
        optAll (law13_num.R ((c2).2).1) fun (c27 : (Int × Unit)) =>
        cond (((c27).1 != (0 : Int))) (
          optAll (law13_live.R) fun (c28 : (Bool × Unit)) =>
          c = ((c28).1, ())) (
          cond (((a3_0 == a2_0) && ((a3_1 == a2_1) && true))) (
            optAll (law13_live.R) fun (c29 : (Bool × Unit)) =>
            c = ((c29).1, ())) (
            cond (((a4_0 == a2_0) && ((a4_1 == a2_1) && true))) (
              optAll (law13_live.R) fun (c30 : (Bool × Unit)) =>
              c = ((c30).1, ())) (
              cond (((a3_0 == a1_0) && ((a3_1 == a1_1) && true))) (
                cond (((a4_0 == a1_0) && ((a4_1 == a1_1) && true))) (
                  optAll (tree_Find.R (c2).1 a1_0 a1_1) fun (c31 : (Int × (Bool × Unit))) =>
                  cond ((!((c31).2).1)) (
                    optAll (tree_Descends.R (c2).1 a2_0 a2_1 a2_0 a2_1) fun (c32 : (Bool × Unit)) =>
                    optAll (tree_Descends.R (c1).1 a3_0 a3_1 a4_0 a4_1) fun (c33 : (Bool × Unit)) =>
                    cond (((c32).1 == (c33).1)) (
                      cond ((((((c2).1).length : Nat) : Int) == ((((c1).1).length : Nat) : Int))) (
                        optAll (law13_live.R) fun (c34 : (Bool × Unit)) =>
                        c = ((c34).1, ())) (
                        c = (false, ()))) (
                      c = (false, ()))) (
                    c = (false, ()))) (
                  optAll (tree_Find.R (c2).1 a1_0 a1_1) fun (c35 : (Int × (Bool × Unit))) =>
                  cond ((!((c35).2).1)) (
                    optAll (tree_Descends.R (c2).1 a2_0 a2_1 a4_0 a4_1) fun (c36 : (Bool × Unit)) =>
                    optAll (tree_Descends.R (c1).1 a3_0 a3_1 a4_0 a4_1) fun (c37 : (Bool × Unit)) =>
                    cond (((c36).1 == (c37).1)) (
                      cond ((((((c2).1).length : Nat) : Int) == ((((c1).1).length : Nat) : Int))) (
                        optAll (law13_live.R) fun (c38 : (Bool × Unit)) =>
                        c = ((c38).1, ())) (
                        c = (false, ()))) (
                      c = (false, ()))) (
                    c = (false, ())))) (
                cond (((a4_0 == a1_0) && ((a4_1 == a1_1) && true))) (
                  optAll (tree_Find.R (c2).1 a1_0 a1_1) fun (c39 : (Int × (Bool × Unit))) =>
                  cond ((!((c39).2).1)) (
                    optAll (tree_Descends.R (c2).1 a3_0 a3_1 a2_0 a2_1) fun (c40 : (Bool × Unit)) =>
                    optAll (tree_Descends.R (c1).1 a3_0 a3_1 a4_0 a4_1) fun (c41 : (Bool × Unit)) =>
                    cond (((c40).1 == (c41).1)) (
                      cond ((((((c2).1).length : Nat) : Int) == ((((c1).1).length : Nat) : Int))) (
                        optAll (law13_live.R) fun (c42 : (Bool × Unit)) =>
                        c = ((c42).1, ())) (
                        c = (false, ()))) (
                      c = (false, ()))) (
                    c = (false, ()))) (
                  optAll (tree_Find.R (c2).1 a1_0 a1_1) fun (c43 : (Int × (Bool × Unit))) =>
                  cond ((!((c43).2).1)) (
                    optAll (tree_Descends.R (c2).1 a3_0 a3_1 a4_0 a4_1) fun (c44 : (Bool × Unit)) =>
                    optAll (tree_Descends.R (c1).1 a3_0 a3_1 a4_0 a4_1) fun (c45 : (Bool × Unit)) =>
                    cond (((c44).1 == (c45).1)) (
                      cond ((((((c2).1).length : Nat) : Int) == ((((c1).1).length : Nat) : Int))) (
                        optAll (law13_live.R) fun (c46 : (Bool × Unit)) =>
                        c = ((c46).1, ())) (
                        c = (false, ()))) (
                      c = (false, ()))) (
                    c = (false, ())))))))))) : R a0 a1_0 a1_1 a2_0 a2_1 a3_0 a3_1 a4_0 a4_1 = some c := start_rule (n := 400) (lv := lv) (noSum_ok _) (by kernel_rfl) h
end law13_TreeMoves
/-! garrison/garrisonlaw13.TreeCounts -/
namespace law13_TreeCounts
def lv : Live := [((12, 1048576), [3, 5, 6, 8, 9, 10, 11], [124]), ((21, 2097152), [5, 6, 8, 9, 10, 14], [])]
abbrev H12 (x5 : List (List DV)) (x6 : Int) (x8 : List (List DV)) (x9 : Int) (x10 : Int) (x11 : Int) (b124 : Int) (b124_1 : Int) (c : (Bool × Unit)) : Prop := HeadAns cfg 14 sh lv (bd cfg 14 [1, 1, 1, 1, 1, 1, 1, 1, 0, 1, 0, 0]) 1048576 [.inBlock 0, .code (bd cfg 14 [1, 1, 1, 1, 1, 1, 1, 1, 1])]
  [(AV.ptr 124 0 0 0), (AV.d (DV.lst 4 x5)), (AV.d (DV.v (Value.int IntKind.i64 x6))), (AV.d (DV.lst 2 x8)), (AV.d (DV.v (Value.int IntKind.i64 x9))), (AV.d (DV.v (Value.int IntKind.i64 x10))), (AV.d (DV.v (Value.int IntKind.i64 x11)))] [(Option.some (VBlk.cell 2 0 [(AV.d (DV.v (Value.int IntKind.i64 b124))), (AV.d (DV.v (Value.int IntKind.i64 b124_1)))]))] 1048576 c
abbrev H21 (x5 : List (List DV)) (x6 : Int) (x8 : List (List DV)) (x9 : Int) (x10 : Int) (x14 : Int) (c : (Bool × Unit)) : Prop := HeadAns cfg 14 sh lv (bd cfg 14 [1, 1, 1, 1, 1, 1, 1, 1, 1, 0, 1, 0, 0]) 2097152 [.inBlock 2, .code (bd cfg 14 [1, 1, 1, 1, 1, 1, 1, 1, 1, 1])]
  [(AV.d (DV.lst 4 x5)), (AV.d (DV.v (Value.int IntKind.i64 x6))), (AV.d (DV.lst 2 x8)), (AV.d (DV.v (Value.int IntKind.i64 x9))), (AV.d (DV.v (Value.int IntKind.i64 x10))), (AV.d (DV.v (Value.int IntKind.i64 x14)))] [] 2097152 c
theorem start (a0 : List (List DV)) (a1_0 : Int) (a1_1 : Int) (c : (Bool × Unit)) (h :
    cond (decide (((((a0).length : Nat) : Int) > (60 : Int)))) (
      optAll (law13_live.R) fun (c0 : (Bool × Unit)) =>
      c = ((c0).1, ())) (
      optAll (law13_grown.R a0) fun (c1 : (List (List DV) × Unit)) =>
      optAll (tree_Find.R (c1).1 a1_0 a1_1) fun (c2 : (Int × (Bool × Unit))) =>
      optAll (tree_Below.R (c1).1 a1_0 a1_1) fun (c3 : (List (List DV) × Unit)) =>
      cond ((!((c2).2).1)) (
        cond ((((((c3).1).length : Nat) : Int) == (0 : Int))) (
          optAll (law13_live.R) fun (c4 : (Bool × Unit)) =>
          c = ((c4).1, ())) (
          c = (false, ()))) (
        H12 (c1).1 (c2).1 (c3).1 (0 : Int) (0 : Int) (0 : Int) a1_0 a1_1 c))) : R a0 a1_0 a1_1 = some c := start_rule (n := 400) (lv := lv) (noSum_ok _) (by kernel_rfl) h
theorem H12_step (x5 : List (List DV)) (x6 : Int) (x8 : List (List DV)) (x9 : Int) (x10 : Int) (x11 : Int) (b124 : Int) (b124_1 : Int) (c : (Bool × Unit)) (h :
    cond (decide ((x11 < (((x5).length : Nat) : Int)))) (
      needs ((0 : Int) ≤ x11) (
      optAll ((x5)[(Int.toNat x11)]?) fun (r5 : List DV) =>
      optAll ((dInt IntKind.i64 r5 0)) fun (z6 : Int) =>
      optAll ((dInt IntKind.i64 r5 1)) fun (z7 : Int) =>
      optAll (tree_Parent.R x5 z6 z7) fun (c8 : ((Int × (Int × Unit)) × (Bool × Unit))) =>
      cond (((c8).2).1) (
        cond (((((c8).1).1 == b124) && (((((c8).1).2).1 == b124_1) && true))) (
          needs ((0 : Int) ≤ x11) (
          optAll ((x5)[(Int.toNat x11)]?) fun (r9 : List DV) =>
          optAll ((dInt IntKind.i64 r9 0)) fun (z10 : Int) =>
          optAll ((dInt IntKind.i64 r9 1)) fun (z11 : Int) =>
          optAll (tree_Below.R x5 z10 z11) fun (c12 : (List (List DV) × Unit)) =>
          needs ((0 : Int) ≤ x11) (
          optAll ((x5)[(Int.toNat x11)]?) fun (r13 : List DV) =>
          optAll ((dInt IntKind.i64 r13 2)) fun (z14 : Int) =>
          cond ((((c8).2).1 == (z14 == (0 : Int)))) (
            c = (false, ())) (
            H12 x5 x6 x8 (IntKind.i64.wrap (x9 + (1 : Int))) (IntKind.i64.wrap ((IntKind.i64.wrap (x10 + (1 : Int))) + ((((c12).1).length : Nat) : Int))) (IntKind.i64.wrap (x11 + (1 : Int))) b124 b124_1 c)))) (
          needs ((0 : Int) ≤ x11) (
          optAll ((x5)[(Int.toNat x11)]?) fun (r15 : List DV) =>
          optAll ((dInt IntKind.i64 r15 2)) fun (z16 : Int) =>
          cond ((((c8).2).1 == (z16 == (0 : Int)))) (
            c = (false, ())) (
            H12 x5 x6 x8 x9 x10 (IntKind.i64.wrap (x11 + (1 : Int))) b124 b124_1 c)))) (
        needs ((0 : Int) ≤ x11) (
        optAll ((x5)[(Int.toNat x11)]?) fun (r17 : List DV) =>
        optAll ((dInt IntKind.i64 r17 2)) fun (z18 : Int) =>
        cond ((((c8).2).1 == (z18 == (0 : Int)))) (
          c = (false, ())) (
          H12 x5 x6 x8 x9 x10 (IntKind.i64.wrap (x11 + (1 : Int))) b124 b124_1 c))))) (
      H21 x5 x6 x8 x9 x10 (0 : Int) c)) : H12 x5 x6 x8 x9 x10 x11 b124 b124_1 c := head_rule (n := 400) (noSum_ok _) (by kernel_rfl) h
theorem H21_step (x5 : List (List DV)) (x6 : Int) (x8 : List (List DV)) (x9 : Int) (x10 : Int) (x14 : Int) (c : (Bool × Unit)) (h :
    cond (decide ((x14 < (((x8).length : Nat) : Int)))) (
      cond (decide (((IntKind.i64.wrap ((IntKind.i64.wrap (x6 + (1 : Int))) + x14)) ≥ (((x5).length : Nat) : Int)))) (
        c = (false, ())) (
        needs ((0 : Int) ≤ (IntKind.i64.wrap ((IntKind.i64.wrap (x6 + (1 : Int))) + x14))) (
        optAll ((x5)[(Int.toNat (IntKind.i64.wrap ((IntKind.i64.wrap (x6 + (1 : Int))) + x14)))]?) fun (r19 : List DV) =>
        optAll ((dInt IntKind.i64 r19 0)) fun (z20 : Int) =>
        optAll ((dInt IntKind.i64 r19 1)) fun (z21 : Int) =>
        needs ((0 : Int) ≤ x14) (
        optAll ((x8)[(Int.toNat x14)]?) fun (r22 : List DV) =>
        optAll ((dInt IntKind.i64 r22 0)) fun (z23 : Int) =>
        optAll ((dInt IntKind.i64 r22 1)) fun (z24 : Int) =>
        cond ((!((z20 == z23) && ((z21 == z24) && true)))) (
          c = (false, ())) (
          H21 x5 x6 x8 x9 x10 (IntKind.i64.wrap (x14 + (1 : Int))) c))))) (
      cond ((x10 == (((x8).length : Nat) : Int))) (
        cond (((x9 == (0 : Int)) == ((((x8).length : Nat) : Int) == (0 : Int)))) (
          optAll (law13_live.R) fun (c25 : (Bool × Unit)) =>
          c = ((c25).1, ())) (
          c = (false, ()))) (
        c = (false, ())))) : H21 x5 x6 x8 x9 x10 x14 c := head_rule (n := 400) (noSum_ok _) (by kernel_rfl) h
end law13_TreeCounts
/-! garrison/garrisonlaw13.TreeMany -/
namespace law13_TreeMany
def lv : Live := [((7, 1048576), [0, 3, 5], [])]
abbrev H7 (x0 : Int) (x3 : List (List DV)) (x5 : Int) (c : (Bool × Unit)) : Prop := HeadAns cfg 15 sh lv (bd cfg 15 [1, 1, 1, 1, 0, 1, 0, 0]) 1048576 [.inBlock 0, .code (bd cfg 15 [1, 1, 1, 1, 1])]
  [(AV.d (DV.v (Value.int IntKind.i64 x0))), (AV.d (DV.lst 4 x3)), (AV.d (DV.v (Value.int IntKind.i64 x5)))] [] 1048576 c
theorem start (a0 : Int) (c : (Bool × Unit)) (h :
    cond (decide ((a0 < (500 : Int)))) (
      optAll (law13_live.R) fun (c0 : (Bool × Unit)) =>
      c = ((c0).1, ())) (
      cond (decide ((a0 > (520 : Int)))) (
        optAll (law13_live.R) fun (c1 : (Bool × Unit)) =>
        c = ((c1).1, ())) (
        H7 a0 [] (0 : Int) c))) : R a0 = some c := start_rule (n := 400) (lv := lv) (noSum_ok _) (by kernel_rfl) h
theorem H7_step (x0 : Int) (x3 : List (List DV)) (x5 : Int) (c : (Bool × Unit)) (h :
    cond (decide ((x5 < x0))) (
      cond (((Int.tmod x5 (2 : Int)) == (0 : Int))) (
        optAll (tree_Root.R x3 (IntKind.i64.wrap (Int.tdiv x5 (8 : Int))) (Int.tmod x5 (8 : Int))) fun (c2 : (List (List DV) × (Int × Unit))) =>
        optAll (law13_num.R ((c2).2).1) fun (c3 : (Int × Unit)) =>
        cond ((!(((c3).1 == (0 : Int)) == decide ((x5 < (512 : Int)))))) (
          optAll (law13_num.R ((c2).2).1) fun (c4 : (Int × Unit)) =>
          cond (((c4).1 != (7 : Int))) (
            c = (false, ())) (
            H7 x0 (c2).1 (IntKind.i64.wrap (x5 + (1 : Int))) c)) (
          H7 x0 (c2).1 (IntKind.i64.wrap (x5 + (1 : Int))) c)) (
        optAll (tree_Insert.R x3 (IntKind.i64.wrap (Int.tdiv x5 (8 : Int))) (IntKind.i64.wrap ((Int.tmod x5 (8 : Int)) - (1 : Int))) (IntKind.i64.wrap (Int.tdiv x5 (8 : Int))) (Int.tmod x5 (8 : Int))) fun (c5 : (List (List DV) × (Int × Unit))) =>
        optAll (law13_num.R ((c5).2).1) fun (c6 : (Int × Unit)) =>
        cond ((!(((c6).1 == (0 : Int)) == decide ((x5 < (512 : Int)))))) (
          optAll (law13_num.R ((c5).2).1) fun (c7 : (Int × Unit)) =>
          cond (((c7).1 != (7 : Int))) (
            c = (false, ())) (
            H7 x0 (c5).1 (IntKind.i64.wrap (x5 + (1 : Int))) c)) (
          H7 x0 (c5).1 (IntKind.i64.wrap (x5 + (1 : Int))) c))) (
      cond (((((x3).length : Nat) : Int) == (if ((512 : Int) < x0) then (512 : Int) else x0))) (
        optAll (tree_Check.R x3) fun (c8 : (Int × Unit)) =>
        optAll (law13_num.R (c8).1) fun (c9 : (Int × Unit)) =>
        cond (((c9).1 == (0 : Int))) (
          optAll (law13_live.R) fun (c10 : (Bool × Unit)) =>
          c = ((c10).1, ())) (
          c = (false, ()))) (
        c = (false, ())))) : H7 x0 x3 x5 c := head_rule (n := 400) (noSum_ok _) (by kernel_rfl) h
end law13_TreeMany
/-! garrison/garrisonlaw13.live -/
namespace law13_live
theorem closed : R = some (true, ()) := ret_closed (n := 4000) (v := .d (.v (.bool true))) (by kernel_rfl) (by kernel_rfl)
end law13_live
/-! garrison/garrisonlaw13.does -/
namespace law13_does
def lv : Live := []
theorem start (a0 : List (List DV)) (a1_0 : Int) (a1_1 : Int) (a1_2 : Int) (a1_3 : Int) (a1_4 : Int) (a1_5 : Bool) (c : (List (List DV) × (Int × Unit))) (h :
    cond ((a1_0 == (0 : Int))) (
      optAll (tree_Root.R a0 a1_1 a1_2) fun (c0 : (List (List DV) × (Int × Unit))) =>
      optAll (law13_num.R ((c0).2).1) fun (c1 : (Int × Unit)) =>
      c = ((c0).1, ((c1).1, ()))) (
      cond ((a1_0 == (1 : Int))) (
        optAll (tree_Insert.R a0 a1_1 a1_2 a1_3 a1_4) fun (c2 : (List (List DV) × (Int × Unit))) =>
        optAll (law13_num.R ((c2).2).1) fun (c3 : (Int × Unit)) =>
        c = ((c2).1, ((c3).1, ()))) (
        cond ((a1_0 == (2 : Int))) (
          optAll (tree_Remove.R a0 a1_1 a1_2) fun (c4 : (List (List DV) × (Int × Unit))) =>
          optAll (law13_num.R ((c4).2).1) fun (c5 : (Int × Unit)) =>
          c = ((c4).1, ((c5).1, ()))) (
          cond ((a1_0 == (3 : Int))) (
            optAll (tree_Move.R a0 a1_1 a1_2 a1_3 a1_4) fun (c6 : (List (List DV) × (Int × Unit))) =>
            optAll (law13_num.R ((c6).2).1) fun (c7 : (Int × Unit)) =>
            c = ((c6).1, ((c7).1, ()))) (
            optAll (tree_Mark.R a0 a1_1 a1_2 a1_5) fun (c8 : (List (List DV) × (Int × Unit))) =>
            optAll (law13_num.R ((c8).2).1) fun (c9 : (Int × Unit)) =>
            c = ((c8).1, ((c9).1, ()))))))) : R a0 a1_0 a1_1 a1_2 a1_3 a1_4 a1_5 = some c := start_rule (n := 400) (lv := lv) (noSum_ok _) (by kernel_rfl) h
end law13_does
/-! garrison/garrisonlaw13.model -/
namespace law13_model
def lv : Live := []
theorem start (a0 : List (List DV)) (a1_0 : Int) (a1_1 : Int) (a1_2 : Int) (a1_3 : Int) (a1_4 : Int) (a1_5 : Bool) (c : (List (List DV) × (Int × Unit))) (h :
    cond ((a1_0 == (0 : Int))) (
      optAll (ref13_Root.R a0 a1_1 a1_2) fun (c0 : (List (List DV) × (Int × Unit))) =>
      c = ((c0).1, (((c0).2).1, ()))) (
      cond ((a1_0 == (1 : Int))) (
        optAll (ref13_Insert.R a0 a1_1 a1_2 a1_3 a1_4) fun (c1 : (List (List DV) × (Int × Unit))) =>
        c = ((c1).1, (((c1).2).1, ()))) (
        cond ((a1_0 == (2 : Int))) (
          optAll (ref13_Remove.R a0 a1_1 a1_2) fun (c2 : (List (List DV) × (Int × Unit))) =>
          c = ((c2).1, (((c2).2).1, ()))) (
          cond ((a1_0 == (3 : Int))) (
            optAll (ref13_Move.R a0 a1_1 a1_2 a1_3 a1_4) fun (c3 : (List (List DV) × (Int × Unit))) =>
            c = ((c3).1, (((c3).2).1, ()))) (
            optAll (ref13_Mark.R a0 a1_1 a1_2 a1_5) fun (c4 : (List (List DV) × (Int × Unit))) =>
            c = ((c4).1, (((c4).2).1, ()))))))) : R a0 a1_0 a1_1 a1_2 a1_3 a1_4 a1_5 = some c := start_rule (n := 400) (lv := lv) (noSum_ok _) (by kernel_rfl) h
end law13_model
/-! garrison/garrisonref13.Same -/
namespace ref13_Same
def lv : Live := [((5, 1048576), [0, 1, 5], [])]
abbrev H5 (x0 : List (List DV)) (x1 : List (List DV)) (x5 : Int) (c : (Bool × Unit)) : Prop := HeadAns cfg 34 sh lv (bd cfg 34 [1, 1, 0, 1, 0, 0]) 1048576 [.inBlock 0, .code (bd cfg 34 [1, 1, 1])]
  [(AV.d (DV.lst 4 x0)), (AV.d (DV.lst 4 x1)), (AV.d (DV.v (Value.int IntKind.i64 x5)))] [] 1048576 c
theorem start (a0 : List (List DV)) (a1 : List (List DV)) (c : (Bool × Unit)) (h :
    cond (((((a0).length : Nat) : Int) != (((a1).length : Nat) : Int))) (
      c = (false, ())) (
      H5 a0 a1 (0 : Int) c)) : R a0 a1 = some c := start_rule (n := 400) (lv := lv) (noSum_ok _) (by kernel_rfl) h
theorem H5_step (x0 : List (List DV)) (x1 : List (List DV)) (x5 : Int) (c : (Bool × Unit)) (h :
    cond (decide ((x5 < (((x0).length : Nat) : Int)))) (
      needs ((0 : Int) ≤ x5) (
      optAll ((x0)[(Int.toNat x5)]?) fun (r0 : List DV) =>
      optAll ((dInt IntKind.i64 r0 0)) fun (z1 : Int) =>
      optAll ((dInt IntKind.i64 r0 1)) fun (z2 : Int) =>
      optAll ((dInt IntKind.i64 r0 2)) fun (z3 : Int) =>
      optAll ((dBool r0 3)) fun (z4 : Bool) =>
      needs ((0 : Int) ≤ x5) (
      optAll ((x1)[(Int.toNat x5)]?) fun (r5 : List DV) =>
      optAll ((dInt IntKind.i64 r5 0)) fun (z6 : Int) =>
      optAll ((dInt IntKind.i64 r5 1)) fun (z7 : Int) =>
      optAll ((dInt IntKind.i64 r5 2)) fun (z8 : Int) =>
      optAll ((dBool r5 3)) fun (z9 : Bool) =>
      cond ((!((z1 == z6) && ((z2 == z7) && ((z3 == z8) && ((z4 == z9) && true)))))) (
        c = (false, ())) (
        H5 x0 x1 (IntKind.i64.wrap (x5 + (1 : Int))) c)))) (
      c = (true, ()))) : H5 x0 x1 x5 c := head_rule (n := 400) (noSum_ok _) (by kernel_rfl) h
end ref13_Same
/-! garrison/tree.Check -/
namespace tree_Check
def lv : Live := [((7, 1048576), [3, 4, 13, 14, 15], [143])]
abbrev H7 (x4 : Int) (x13 : List (List DV)) (x14 : Int) (x15 : Int) (b143 : List (List DV × DV)) (c : (Int × Unit)) : Prop := HeadAns cfg 36 sh lv (bd cfg 36 [1, 1, 1, 1, 0, 1, 0, 0]) 1048576 [.inBlock 0, .code (bd cfg 36 [1, 1, 1, 1, 1])]
  [(AV.map 143), (AV.d (DV.v (Value.int IntKind.i64 x4))), (AV.d (DV.lst 4 x13)), (AV.d (DV.v (Value.int IntKind.i64 x14))), (AV.d (DV.v (Value.int IntKind.i64 x15)))] [(Option.some (VBlk.mp true b143))] 1048576 c
theorem start (a0 : List (List DV)) (c : (Int × Unit)) (h :
    cond (decide (((((a0).length : Nat) : Int) > (512 : Int)))) (
      c = ((2 : Int), ())) (
      H7 (0 : Int) a0 (((a0).length : Nat) : Int) (0 : Int) [] c)) : R a0 = some c := start_rule (n := 400) (lv := lv) (noSum_ok _) (by kernel_rfl) h
theorem H7_step (x4 : Int) (x13 : List (List DV)) (x14 : Int) (x15 : Int) (b143 : List (List DV × DV)) (c : (Int × Unit)) (h :
    cond (decide ((x15 < x14))) (
      needs ((0 : Int) ≤ x15) (
      optAll ((x13)[(Int.toNat x15)]?) fun (r0 : List DV) =>
      optAll ((dInt IntKind.i64 r0 0)) fun (z1 : Int) =>
      optAll ((dInt IntKind.i64 r0 1)) fun (z2 : Int) =>
      optAll ((dInt IntKind.i64 r0 2)) fun (z3 : Int) =>
      optAll ((dBool r0 3)) fun (z4 : Bool) =>
      optAll ((mapHas (Option.some [false, false]) [(DV.v (Value.int IntKind.i64 z1)), (DV.v (Value.int IntKind.i64 z2))] b143)) fun (z5 : Bool) =>
      cond (z5) (
        c = ((2 : Int), ())) (
        optAll (order_Check.R z1 z2) fun (c6 : (Int × Unit)) =>
        cond (((c6).1 != (0 : Int))) (
          c = ((2 : Int), ())) (
          cond (decide ((z3 < (0 : Int)))) (
            c = ((2 : Int), ())) (
            cond (decide ((z3 > x4))) (
              c = ((2 : Int), ())) (
              optAll ((mapPut (Option.some [false, false]) [(DV.v (Value.int IntKind.i64 z1)), (DV.v (Value.int IntKind.i64 z2))] (DV.v (Value.bool true)) b143)) fun (m7 : List (List DV × DV)) =>
              H7 (IntKind.i64.wrap (z3 + (1 : Int))) x13 x14 (IntKind.i64.wrap (x15 + (1 : Int))) m7 c)))))) (
      c = ((0 : Int), ()))) : H7 x4 x13 x14 x15 b143 c := head_rule (n := 400) (noSum_ok _) (by kernel_rfl) h
end tree_Check
/-! garrison/garrisonlaw13.num -/
namespace law13_num
def lv : Live := []
theorem start (a0 : Int) (c : (Int × Unit)) (h :
    c = (a0, ())) : R a0 = some c := start_rule (n := 400) (lv := lv) (noSum_ok _) (by kernel_rfl) h
end law13_num
/-! garrison/garrisonref13.Is -/
namespace ref13_Is
def lv : Live := [((5, 1048576), [0, 3], [])]
abbrev H5 (x0 : List (List DV)) (x3 : Int) (c : (Bool × Unit)) : Prop := HeadAns cfg 37 sh lv (bd cfg 37 [1, 1, 0, 1, 0, 0]) 1048576 [.inBlock 0, .code (bd cfg 37 [1, 1, 1])]
  [(AV.d (DV.lst 4 x0)), (AV.d (DV.v (Value.int IntKind.i64 x3)))] [] 1048576 c
theorem start (a0 : List (List DV)) (c : (Bool × Unit)) (h :
    cond (decide (((((a0).length : Nat) : Int) > (512 : Int)))) (
      c = (false, ())) (
      H5 a0 (0 : Int) c)) : R a0 = some c := start_rule (n := 400) (lv := lv) (noSum_ok _) (by kernel_rfl) h
theorem H5_step (x0 : List (List DV)) (x3 : Int) (c : (Bool × Unit)) (h :
    cond (decide ((x3 < (((x0).length : Nat) : Int)))) (
      needs ((0 : Int) ≤ x3) (
      optAll ((x0)[(Int.toNat x3)]?) fun (r0 : List DV) =>
      optAll ((dInt IntKind.i64 r0 0)) fun (z1 : Int) =>
      optAll ((dInt IntKind.i64 r0 1)) fun (z2 : Int) =>
      optAll (ref13_Find.R x0 z1 z2) fun (c3 : (Int × (Bool × Unit))) =>
      cond (((c3).1 != x3)) (
        c = (false, ())) (
        needs ((0 : Int) ≤ x3) (
        optAll ((x0)[(Int.toNat x3)]?) fun (r4 : List DV) =>
        optAll ((dInt IntKind.i64 r4 0)) fun (z5 : Int) =>
        optAll ((dInt IntKind.i64 r4 1)) fun (z6 : Int) =>
        optAll (ref06_Is.R z5 z6) fun (c7 : (Bool × Unit)) =>
        cond ((!(c7).1)) (
          c = (false, ())) (
          needs ((0 : Int) ≤ x3) (
          optAll ((x0)[(Int.toNat x3)]?) fun (r8 : List DV) =>
          optAll ((dInt IntKind.i64 r8 2)) fun (z9 : Int) =>
          cond (decide ((z9 < (0 : Int)))) (
            c = (false, ())) (
            cond ((x3 == (0 : Int))) (
              needs ((0 : Int) ≤ x3) (
              optAll ((x0)[(Int.toNat x3)]?) fun (r10 : List DV) =>
              optAll ((dInt IntKind.i64 r10 2)) fun (z11 : Int) =>
              cond ((z11 != (0 : Int))) (
                c = (false, ())) (
                cond (decide ((x3 > (0 : Int)))) (
                  needs ((0 : Int) ≤ x3) (
                  optAll ((x0)[(Int.toNat x3)]?) fun (r12 : List DV) =>
                  optAll ((dInt IntKind.i64 r12 2)) fun (z13 : Int) =>
                  needs ((0 : Int) ≤ (IntKind.i64.wrap (x3 - (1 : Int)))) (
                  optAll ((x0)[(Int.toNat (IntKind.i64.wrap (x3 - (1 : Int))))]?) fun (r14 : List DV) =>
                  optAll ((dInt IntKind.i64 r14 2)) fun (z15 : Int) =>
                  cond (decide ((z13 > (IntKind.i64.wrap (z15 + (1 : Int)))))) (
                    c = (false, ())) (
                    H5 x0 (IntKind.i64.wrap (x3 + (1 : Int))) c)))) (
                  H5 x0 (IntKind.i64.wrap (x3 + (1 : Int))) c)))) (
              cond (decide ((x3 > (0 : Int)))) (
                needs ((0 : Int) ≤ x3) (
                optAll ((x0)[(Int.toNat x3)]?) fun (r16 : List DV) =>
                optAll ((dInt IntKind.i64 r16 2)) fun (z17 : Int) =>
                needs ((0 : Int) ≤ (IntKind.i64.wrap (x3 - (1 : Int)))) (
                optAll ((x0)[(Int.toNat (IntKind.i64.wrap (x3 - (1 : Int))))]?) fun (r18 : List DV) =>
                optAll ((dInt IntKind.i64 r18 2)) fun (z19 : Int) =>
                cond (decide ((z17 > (IntKind.i64.wrap (z19 + (1 : Int)))))) (
                  c = (false, ())) (
                  H5 x0 (IntKind.i64.wrap (x3 + (1 : Int))) c)))) (
                H5 x0 (IntKind.i64.wrap (x3 + (1 : Int))) c))))))))) (
      c = (true, ()))) : H5 x0 x3 c := head_rule (n := 400) (noSum_ok _) (by kernel_rfl) h
end ref13_Is
/-! garrison/tree.Same -/
namespace tree_Same
def lv : Live := []
theorem start (a0 : List (List DV)) (a1 : List (List DV)) (c : (Bool × Unit)) (h :
    optAll (slices_Equal_api_Branch_api_Branch.R a0 a1) fun (c0 : (Bool × Unit)) =>
    c = ((c0).1, ())) : R a0 a1 = some c := start_rule (n := 400) (lv := lv) (noSum_ok _) (by kernel_rfl) h
end tree_Same
/-! garrison/tree.Find -/
namespace tree_Find
def lv : Live := []
theorem start (a0 : List (List DV)) (a1_0 : Int) (a1_1 : Int) (c : (Int × (Bool × Unit))) (h :
    optAll (slices_IndexFunc_api_Branch_api_Branch__tree_Find_1.R a0 a1_0 a1_1) fun (c0 : (Int × Unit)) =>
    c = ((if ((0 : Int) > (c0).1) then (0 : Int) else (c0).1), (decide (((c0).1 ≥ (0 : Int))), ()))) : R a0 a1_0 a1_1 = some c := start_rule (n := 400) (lv := lv) (noSum_ok _) (by kernel_rfl) h
end tree_Find
/-! garrison/garrisonref13.Find -/
namespace ref13_Find
def lv : Live := [((3, 1048576), [0, 3, 6], [21])]
abbrev H3 (x0 : List (List DV)) (x6 : Int) (b21 : Int) (b21_1 : Int) (c : (Int × (Bool × Unit))) : Prop := HeadAns cfg 40 sh lv (bd cfg 40 [1, 0, 1, 0, 0]) 1048576 [.inBlock 0, .code (bd cfg 40 [1, 1])]
  [(AV.d (DV.lst 4 x0)), (AV.ptr 21 0 0 0), (AV.d (DV.v (Value.int IntKind.i64 x6)))] [(Option.some (VBlk.cell 2 0 [(AV.d (DV.v (Value.int IntKind.i64 b21))), (AV.d (DV.v (Value.int IntKind.i64 b21_1)))]))] 1048576 c
theorem start (a0 : List (List DV)) (a1_0 : Int) (a1_1 : Int) (c : (Int × (Bool × Unit))) (h :
    H3 a0 (0 : Int) a1_0 a1_1 c) : R a0 a1_0 a1_1 = some c := start_rule (n := 400) (lv := lv) (noSum_ok _) (by kernel_rfl) h
theorem H3_step (x0 : List (List DV)) (x6 : Int) (b21 : Int) (b21_1 : Int) (c : (Int × (Bool × Unit))) (h :
    cond (decide ((x6 < (((x0).length : Nat) : Int)))) (
      needs ((0 : Int) ≤ x6) (
      optAll ((x0)[(Int.toNat x6)]?) fun (r0 : List DV) =>
      optAll ((dInt IntKind.i64 r0 0)) fun (z1 : Int) =>
      optAll ((dInt IntKind.i64 r0 1)) fun (z2 : Int) =>
      cond (((z1 == b21) && ((z2 == b21_1) && true))) (
        c = (x6, (true, ()))) (
        H3 x0 (IntKind.i64.wrap (x6 + (1 : Int))) b21 b21_1 c))) (
      c = ((0 : Int), (false, ())))) : H3 x0 x6 b21 b21_1 c := head_rule (n := 400) (noSum_ok _) (by kernel_rfl) h
end ref13_Find
/-! garrison/tree.Parent -/
namespace tree_Parent
def lv : Live := [((4, 1048576), [0, 4, 6, 7, 8], [57])]
abbrev H4 (x0 : List (List DV)) (x6 : Int) (x7 : Bool) (x8 : Int) (b57 : Int) (b57_1 : Int) (c : ((Int × (Int × Unit)) × (Bool × Unit))) : Prop := HeadAns cfg 41 sh lv (bd cfg 41 [1, 1, 0, 1, 0, 0]) 1048576 [.inBlock 0, .code (bd cfg 41 [1, 1, 1])]
  [(AV.d (DV.lst 4 x0)), (AV.ptr 57 0 0 0), (AV.d (DV.v (Value.int IntKind.i64 x6))), (AV.d (DV.v (Value.bool x7))), (AV.d (DV.v (Value.int IntKind.i64 x8)))] [(Option.some (VBlk.cell 2 0 [(AV.d (DV.v (Value.int IntKind.i64 b57))), (AV.d (DV.v (Value.int IntKind.i64 b57_1)))]))] 1048576 c
theorem start (a0 : List (List DV)) (a1_0 : Int) (a1_1 : Int) (c : ((Int × (Int × Unit)) × (Bool × Unit))) (h :
    optAll (tree_Find.R a0 a1_0 a1_1) fun (c0 : (Int × (Bool × Unit))) =>
    H4 a0 (c0).1 ((c0).2).1 (IntKind.i64.wrap ((c0).1 - (1 : Int))) (0 : Int) (0 : Int) c) : R a0 a1_0 a1_1 = some c := start_rule (n := 400) (lv := lv) (noSum_ok _) (by kernel_rfl) h
theorem H4_step (x0 : List (List DV)) (x6 : Int) (x7 : Bool) (x8 : Int) (b57 : Int) (b57_1 : Int) (c : ((Int × (Int × Unit)) × (Bool × Unit))) (h :
    cond (x7) (
      cond (decide ((x8 ≥ (0 : Int)))) (
        needs ((0 : Int) ≤ x8) (
        optAll ((x0)[(Int.toNat x8)]?) fun (r1 : List DV) =>
        optAll ((dInt IntKind.i64 r1 2)) fun (z2 : Int) =>
        needs ((0 : Int) ≤ x6) (
        optAll ((x0)[(Int.toNat x6)]?) fun (r3 : List DV) =>
        optAll ((dInt IntKind.i64 r3 2)) fun (z4 : Int) =>
        cond (decide ((z2 < z4))) (
          needs ((0 : Int) ≤ x8) (
          optAll ((x0)[(Int.toNat x8)]?) fun (r5 : List DV) =>
          optAll ((dInt IntKind.i64 r5 0)) fun (z6 : Int) =>
          optAll ((dInt IntKind.i64 r5 1)) fun (z7 : Int) =>
          c = ((z6, (z7, ())), (true, ())))) (
          H4 x0 x6 x7 (IntKind.i64.wrap (x8 - (1 : Int))) b57 b57_1 c)))) (
        c = (((0 : Int), ((0 : Int), ())), (false, ())))) (
      c = (((0 : Int), ((0 : Int), ())), (false, ())))) : H4 x0 x6 x7 x8 b57 b57_1 c := head_rule (n := 400) (noSum_ok _) (by kernel_rfl) h
end tree_Parent
/-! garrison/garrisonref13.Parent -/
namespace ref13_Parent
def lv : Live := [((6, 1048576), [0, 4, 6, 8], [57])]
abbrev H6 (x0 : List (List DV)) (x6 : Int) (x8 : Int) (b57 : Int) (b57_1 : Int) (c : ((Int × (Int × Unit)) × (Bool × Unit))) : Prop := HeadAns cfg 42 sh lv (bd cfg 42 [1, 1, 1, 0, 1, 0, 0]) 1048576 [.inBlock 0, .code (bd cfg 42 [1, 1, 1, 1])]
  [(AV.d (DV.lst 4 x0)), (AV.ptr 57 0 0 0), (AV.d (DV.v (Value.int IntKind.i64 x6))), (AV.d (DV.v (Value.int IntKind.i64 x8)))] [(Option.some (VBlk.cell 2 0 [(AV.d (DV.v (Value.int IntKind.i64 b57))), (AV.d (DV.v (Value.int IntKind.i64 b57_1)))]))] 1048576 c
theorem start (a0 : List (List DV)) (a1_0 : Int) (a1_1 : Int) (c : ((Int × (Int × Unit)) × (Bool × Unit))) (h :
    optAll (ref13_Find.R a0 a1_0 a1_1) fun (c0 : (Int × (Bool × Unit))) =>
    cond ((!((c0).2).1)) (
      c = (((0 : Int), ((0 : Int), ())), (false, ()))) (
      H6 a0 (c0).1 (IntKind.i64.wrap ((c0).1 - (1 : Int))) (0 : Int) (0 : Int) c)) : R a0 a1_0 a1_1 = some c := start_rule (n := 400) (lv := lv) (noSum_ok _) (by kernel_rfl) h
theorem H6_step (x0 : List (List DV)) (x6 : Int) (x8 : Int) (b57 : Int) (b57_1 : Int) (c : ((Int × (Int × Unit)) × (Bool × Unit))) (h :
    cond (decide ((x8 ≥ (0 : Int)))) (
      needs ((0 : Int) ≤ x8) (
      optAll ((x0)[(Int.toNat x8)]?) fun (r1 : List DV) =>
      optAll ((dInt IntKind.i64 r1 2)) fun (z2 : Int) =>
      needs ((0 : Int) ≤ x6) (
      optAll ((x0)[(Int.toNat x6)]?) fun (r3 : List DV) =>
      optAll ((dInt IntKind.i64 r3 2)) fun (z4 : Int) =>
      cond (decide ((z2 < z4))) (
        needs ((0 : Int) ≤ x8) (
        optAll ((x0)[(Int.toNat x8)]?) fun (r5 : List DV) =>
        optAll ((dInt IntKind.i64 r5 0)) fun (z6 : Int) =>
        optAll ((dInt IntKind.i64 r5 1)) fun (z7 : Int) =>
        c = ((z6, (z7, ())), (true, ())))) (
        H6 x0 x6 (IntKind.i64.wrap (x8 - (1 : Int))) b57 b57_1 c)))) (
      c = (((0 : Int), ((0 : Int), ())), (false, ())))) : H6 x0 x6 x8 b57 b57_1 c := head_rule (n := 400) (noSum_ok _) (by kernel_rfl) h
end ref13_Parent
/-! garrison/tree.Below -/
namespace tree_Below
def lv : Live := []
theorem start (a0 : List (List DV)) (a1_0 : Int) (a1_1 : Int) (c : (List (List DV) × Unit)) (h :
    optAll (tree_Find.R a0 a1_0 a1_1) fun (c0 : (Int × (Bool × Unit))) =>
    cond ((!((c0).2).1)) (
      c = ([], ())) (
      optAll (retOf cfg.prim [.one (.lst 2)] 78 [(AV.d (DV.fn 90 [(DV.ptr [(DV.lst 4 a0)] 0), (DV.ptr [(DV.v (Value.int IntKind.i64 (c0).1))] 0)]))]) fun (c1 : (List (List DV) × Unit)) =>
      c = ((c1).1, ()))) : R a0 a1_0 a1_1 = some c := start_rule (n := 400) (lv := lv) (noSum_ok _) (by kernel_rfl) h
end tree_Below
/-! garrison/garrisonref13.Below -/
namespace ref13_Below
def lv : Live := [((6, 1048576), [0, 5, 7, 8], [7])]
abbrev H6 (x0 : List (List DV)) (x5 : Int) (b7 : List (List DV)) (x8 : Int) (c : (List (List DV) × Unit)) : Prop := HeadAns cfg 45 sh lv (bd cfg 45 [1, 1, 1, 0, 1, 0, 1, 0, 0]) 1048576 [.inBlock 0, .code (bd cfg 45 [1, 1, 1, 1])]
  [(AV.d (DV.lst 4 x0)), (AV.d (DV.v (Value.int IntKind.i64 x5))), (AV.ref 7 0 0 (List.length b7)), (AV.d (DV.v (Value.int IntKind.i64 x8)))] [(Option.some (VBlk.drow 2 0 b7))] 1048576 c
theorem start (a0 : List (List DV)) (a1_0 : Int) (a1_1 : Int) (c : (List (List DV) × Unit)) (h :
    optAll (ref13_Find.R a0 a1_0 a1_1) fun (c0 : (Int × (Bool × Unit))) =>
    cond (((c0).2).1) (
      H6 a0 (c0).1 [] (0 : Int) c) (
      c = ((([]).take (0)), ()))) : R a0 a1_0 a1_1 = some c := start_rule (n := 400) (lv := lv) (noSum_ok _) (by kernel_rfl) h
theorem H6_step (x0 : List (List DV)) (x5 : Int) (b7 : List (List DV)) (x8 : Int) (c : (List (List DV) × Unit)) (h :
    optAll (ref13_count.R x0 x5) fun (c1 : (Int × Unit)) =>
    cond (decide ((x8 < (c1).1))) (
      needs ((0 : Int) ≤ (IntKind.i64.wrap ((IntKind.i64.wrap (x5 + (1 : Int))) + x8))) (
      optAll ((x0)[(Int.toNat (IntKind.i64.wrap ((IntKind.i64.wrap (x5 + (1 : Int))) + x8)))]?) fun (r2 : List DV) =>
      optAll ((dInt IntKind.i64 r2 0)) fun (z3 : Int) =>
      optAll ((dInt IntKind.i64 r2 1)) fun (z4 : Int) =>
      needs ((b7).length = (b7).length) (
      needs (((((b7 ++ (([[(DV.v (Value.int IntKind.i64 z3)), (DV.v (Value.int IntKind.i64 z4))]]).take (1)))).length * 16) ≤ 140737488355328) ∧ ((((b7 ++ (([[(DV.v (Value.int IntKind.i64 z3)), (DV.v (Value.int IntKind.i64 z4))]]).take (1)))).length * 2) ≤ 140737488355328)) (
      H6 x0 x5 (b7 ++ (([[(DV.v (Value.int IntKind.i64 z3)), (DV.v (Value.int IntKind.i64 z4))]]).take (1))) (IntKind.i64.wrap (x8 + (1 : Int))) c)))) (
      c = (((b7).take ((b7).length)), ()))) : H6 x0 x5 b7 x8 c := head_rule (n := 400) (noSum_ok _) (by kernel_rfl) h
end ref13_Below
/-! garrison/garrisonref06.Same -/
namespace ref06_Same
def lv : Live := [((5, 1048576), [0, 1, 5], [])]
abbrev H5 (x0 : List (List DV)) (x1 : List (List DV)) (x5 : Int) (c : (Bool × Unit)) : Prop := HeadAns cfg 43 sh lv (bd cfg 43 [1, 1, 0, 1, 0, 0]) 1048576 [.inBlock 0, .code (bd cfg 43 [1, 1, 1])]
  [(AV.d (DV.lst 2 x0)), (AV.d (DV.lst 2 x1)), (AV.d (DV.v (Value.int IntKind.i64 x5)))] [] 1048576 c
theorem start (a0 : List (List DV)) (a1 : List (List DV)) (c : (Bool × Unit)) (h :
    cond (((((a0).length : Nat) : Int) != (((a1).length : Nat) : Int))) (
      c = (false, ())) (
      H5 a0 a1 (0 : Int) c)) : R a0 a1 = some c := start_rule (n := 400) (lv := lv) (noSum_ok _) (by kernel_rfl) h
theorem H5_step (x0 : List (List DV)) (x1 : List (List DV)) (x5 : Int) (c : (Bool × Unit)) (h :
    cond (decide ((x5 < (((x0).length : Nat) : Int)))) (
      needs ((0 : Int) ≤ x5) (
      optAll ((x0)[(Int.toNat x5)]?) fun (r0 : List DV) =>
      optAll ((dInt IntKind.i64 r0 0)) fun (z1 : Int) =>
      optAll ((dInt IntKind.i64 r0 1)) fun (z2 : Int) =>
      needs ((0 : Int) ≤ x5) (
      optAll ((x1)[(Int.toNat x5)]?) fun (r3 : List DV) =>
      optAll ((dInt IntKind.i64 r3 0)) fun (z4 : Int) =>
      optAll ((dInt IntKind.i64 r3 1)) fun (z5 : Int) =>
      cond ((!((z1 == z4) && ((z2 == z5) && true)))) (
        c = (false, ())) (
        H5 x0 x1 (IntKind.i64.wrap (x5 + (1 : Int))) c)))) (
      c = (true, ()))) : H5 x0 x1 x5 c := head_rule (n := 400) (noSum_ok _) (by kernel_rfl) h
end ref06_Same
/-! garrison/tree.Descends -/
namespace tree_Descends
def lv : Live := []
theorem start (a0 : List (List DV)) (a1_0 : Int) (a1_1 : Int) (a2_0 : Int) (a2_1 : Int) (c : (Bool × Unit)) (h :
    optAll (tree_Below.R a0 a2_0 a2_1) fun (c0 : (List (List DV) × Unit)) =>
    optAll (slices_Contains_api_Key_api_Key.R (c0).1 a1_0 a1_1) fun (c1 : (Bool × Unit)) =>
    c = ((c1).1, ())) : R a0 a1_0 a1_1 a2_0 a2_1 = some c := start_rule (n := 400) (lv := lv) (noSum_ok _) (by kernel_rfl) h
end tree_Descends
/-! garrison/garrisonref13.Descends -/
namespace ref13_Descends
def lv : Live := []
theorem start (a0 : List (List DV)) (a1_0 : Int) (a1_1 : Int) (a2_0 : Int) (a2_1 : Int) (c : (Bool × Unit)) (h :
    optAll (ref13_Below.R a0 a2_0 a2_1) fun (c0 : (List (List DV) × Unit)) =>
    optAll (ref06_Has.R (c0).1 a1_0 a1_1) fun (c1 : (Bool × Unit)) =>
    c = ((c1).1, ())) : R a0 a1_0 a1_1 a2_0 a2_1 = some c := start_rule (n := 400) (lv := lv) (noSum_ok _) (by kernel_rfl) h
end ref13_Descends
/-! garrison/garrisonlaw13.grown -/
namespace law13_grown
def lv : Live := [((4, 1048576), [0, 3, 4], [])]
abbrev H4 (x0 : List (List DV)) (x3 : List (List DV)) (x4 : Int) (c : (List (List DV) × Unit)) : Prop := HeadAns cfg 48 sh lv (bd cfg 48 [1, 1, 0, 1, 0, 0]) 1048576 [.inBlock 0, .code (bd cfg 48 [1, 1, 1])]
  [(AV.d (DV.lst 6 x0)), (AV.d (DV.lst 4 x3)), (AV.d (DV.v (Value.int IntKind.i64 x4)))] [] 1048576 c
theorem start (a0 : List (List DV)) (c : (List (List DV) × Unit)) (h :
    H4 a0 [] (0 : Int) c) : R a0 = some c := start_rule (n := 400) (lv := lv) (noSum_ok _) (by kernel_rfl) h
theorem H4_step (x0 : List (List DV)) (x3 : List (List DV)) (x4 : Int) (c : (List (List DV) × Unit)) (h :
    cond (decide ((x4 < (((x0).length : Nat) : Int)))) (
      needs ((0 : Int) ≤ x4) (
      optAll ((x0)[(Int.toNat x4)]?) fun (r0 : List DV) =>
      optAll ((dInt IntKind.i64 r0 0)) fun (z1 : Int) =>
      optAll ((dInt IntKind.i64 r0 1)) fun (z2 : Int) =>
      optAll ((dInt IntKind.i64 r0 2)) fun (z3 : Int) =>
      optAll ((dInt IntKind.i64 r0 3)) fun (z4 : Int) =>
      optAll ((dInt IntKind.i64 r0 4)) fun (z5 : Int) =>
      optAll ((dBool r0 5)) fun (z6 : Bool) =>
      optAll (law13_does.R x3 z1 z2 z3 z4 z5 z6) fun (c7 : (List (List DV) × (Int × Unit))) =>
      H4 x0 (c7).1 (IntKind.i64.wrap (x4 + (1 : Int))) c)) (
      c = (x3, ()))) : H4 x0 x3 x4 c := head_rule (n := 400) (noSum_ok _) (by kernel_rfl) h
end law13_grown
/-! garrison/tree.Insert -/
namespace tree_Insert
def lv : Live := []
theorem start (a0 : List (List DV)) (a1_0 : Int) (a1_1 : Int) (a2_0 : Int) (a2_1 : Int) (c : (List (List DV) × (Int × Unit))) (h :
    optAll (tree_right.R a0 (([[(DV.v (Value.int IntKind.i64 a1_0)), (DV.v (Value.int IntKind.i64 a1_1))], [(DV.v (Value.int IntKind.i64 a2_0)), (DV.v (Value.int IntKind.i64 a2_1))]]).take (2))) fun (c0 : (Bool × Unit)) =>
    cond ((!(c0).1)) (
      c = (a0, ((2 : Int), ()))) (
      optAll (tree_Find.R a0 a1_0 a1_1) fun (c1 : (Int × (Bool × Unit))) =>
      cond ((!((c1).2).1)) (
        c = (a0, ((7 : Int), ()))) (
        needs ((0 : Int) ≤ (c1).1) (
        optAll ((a0)[(Int.toNat (c1).1)]?) fun (r2 : List DV) =>
        optAll ((dInt IntKind.i64 r2 2)) fun (z3 : Int) =>
        optAll (tree_add.R a0 (IntKind.i64.wrap ((c1).1 + (1 : Int))) a2_0 a2_1 (IntKind.i64.wrap (z3 + (1 : Int))) false) fun (c4 : (List (List DV) × (Int × Unit))) =>
        c = ((c4).1, (((c4).2).1, ())))))) : R a0 a1_0 a1_1 a2_0 a2_1 = some c := start_rule (n := 400) (lv := lv) (noSum_ok _) (by kernel_rfl) h
end tree_Insert
/-! garrison/tree.Remove -/
namespace tree_Remove
def lv : Live := []
theorem start (a0 : List (List DV)) (a1_0 : Int) (a1_1 : Int) (c : (List (List DV) × (Int × Unit))) (h :
    optAll (tree_right.R a0 (([[(DV.v (Value.int IntKind.i64 a1_0)), (DV.v (Value.int IntKind.i64 a1_1))]]).take (1))) fun (c0 : (Bool × Unit)) =>
    cond ((!(c0).1)) (
      c = (a0, ((2 : Int), ()))) (
      optAll (tree_Find.R a0 a1_0 a1_1) fun (c1 : (Int × (Bool × Unit))) =>
      cond ((!((c1).2).1)) (
        c = (a0, ((7 : Int), ()))) (
        optAll (gather cfg 90 [(DV.ptr [(DV.lst 4 a0)] 0), (DV.ptr [(DV.v (Value.int IntKind.i64 (c1).1))] 0)]) fun (g2 : List (List DV)) =>
        cond ((List.isEmpty g2)) (
          needs ((c1).1 = (c1).1) (
          needs (((0 : Int) ≤ (0 : Int)) ∧ (((0 : Int) ≤ (c1).1) ∧ ((c1).1 ≤ (((a0).length : Nat) : Int)))) (
          needs (((0 : Int) ≤ (IntKind.i64.wrap ((c1).1 + (1 : Int)))) ∧ (((IntKind.i64.wrap ((c1).1 + (1 : Int))) ≤ (((a0).length : Nat) : Int)) ∧ ((((a0).length : Nat) : Int) ≤ (((a0).length : Nat) : Int)))) (
          cond ((List.isEmpty ((((a0).take ((Int.toNat (((a0).length : Nat) : Int))))).drop ((Int.toNat (IntKind.i64.wrap ((c1).1 + (1 : Int)))))))) (
            c = (((a0).take ((Int.toNat (c1).1))), ((0 : Int), ()))) (
            needs (((((((a0).take ((Int.toNat (c1).1))) ++ ((((a0).take ((Int.toNat (((a0).length : Nat) : Int))))).drop ((Int.toNat (IntKind.i64.wrap ((c1).1 + (1 : Int)))))))).length * 32) ≤ 140737488355328) ∧ ((((((a0).take ((Int.toNat (c1).1))) ++ ((((a0).take ((Int.toNat (((a0).length : Nat) : Int))))).drop ((Int.toNat (IntKind.i64.wrap ((c1).1 + (1 : Int)))))))).length * 4) ≤ 140737488355328)) (
            c = ((((((a0).take ((Int.toNat (c1).1))) ++ ((((a0).take ((Int.toNat (((a0).length : Nat) : Int))))).drop ((Int.toNat (IntKind.i64.wrap ((c1).1 + (1 : Int)))))))).take (((((a0).take ((Int.toNat (c1).1))) ++ ((((a0).take ((Int.toNat (((a0).length : Nat) : Int))))).drop ((Int.toNat (IntKind.i64.wrap ((c1).1 + (1 : Int)))))))).length)), ((0 : Int), ())))))))) (
          c = (a0, ((130 : Int), ())))))) : R a0 a1_0 a1_1 = some c := start_rule (n := 400) (lv := lv) (noSum_ok _) (by kernel_rfl) h
end tree_Remove
/-! garrison/tree.Move -/
namespace tree_Move
def lv : Live := []
theorem start (a0 : List (List DV)) (a1_0 : Int) (a1_1 : Int) (a2_0 : Int) (a2_1 : Int) (c : (List (List DV) × (Int × Unit))) (h :
    optAll (tree_right.R a0 (([[(DV.v (Value.int IntKind.i64 a1_0)), (DV.v (Value.int IntKind.i64 a1_1))], [(DV.v (Value.int IntKind.i64 a2_0)), (DV.v (Value.int IntKind.i64 a2_1))]]).take (2))) fun (c0 : (Bool × Unit)) =>
    cond ((!(c0).1)) (
      c = (a0, ((2 : Int), ()))) (
      optAll (tree_Find.R a0 a1_0 a1_1) fun (c1 : (Int × (Bool × Unit))) =>
      cond ((!((c1).2).1)) (
        c = (a0, ((7 : Int), ()))) (
        optAll (tree_Find.R a0 a2_0 a2_1) fun (c2 : (Int × (Bool × Unit))) =>
        cond (((c2).2).1) (
          c = (a0, ((8 : Int), ()))) (
          needs ((0 : Int) ≤ (c1).1) (
          optAll ((a0)[(Int.toNat (c1).1)]?) fun (r3 : List DV) =>
          optAll ((dInt IntKind.i64 r3 0)) fun (z4 : Int) =>
          optAll ((dInt IntKind.i64 r3 1)) fun (z5 : Int) =>
          optAll ((dInt IntKind.i64 r3 2)) fun (z6 : Int) =>
          optAll ((dBool r3 3)) fun (z7 : Bool) =>
          optAll (tree_with.R a0 (c1).1 a2_0 a2_1 z6 z7) fun (c8 : (List (List DV) × Unit)) =>
          c = ((c8).1, ((0 : Int), ()))))))) : R a0 a1_0 a1_1 a2_0 a2_1 = some c := start_rule (n := 400) (lv := lv) (noSum_ok _) (by kernel_rfl) h
end tree_Move
/-! garrison/tree.Mark -/
namespace tree_Mark
def lv : Live := []
theorem start (a0 : List (List DV)) (a1_0 : Int) (a1_1 : Int) (a2 : Bool) (c : (List (List DV) × (Int × Unit))) (h :
    optAll (tree_right.R a0 (([[(DV.v (Value.int IntKind.i64 a1_0)), (DV.v (Value.int IntKind.i64 a1_1))]]).take (1))) fun (c0 : (Bool × Unit)) =>
    cond ((!(c0).1)) (
      c = (a0, ((2 : Int), ()))) (
      optAll (tree_Find.R a0 a1_0 a1_1) fun (c1 : (Int × (Bool × Unit))) =>
      cond ((!((c1).2).1)) (
        c = (a0, ((7 : Int), ()))) (
        needs ((0 : Int) ≤ (c1).1) (
        optAll ((a0)[(Int.toNat (c1).1)]?) fun (r2 : List DV) =>
        optAll ((dInt IntKind.i64 r2 0)) fun (z3 : Int) =>
        optAll ((dInt IntKind.i64 r2 1)) fun (z4 : Int) =>
        optAll ((dInt IntKind.i64 r2 2)) fun (z5 : Int) =>
        optAll ((dBool r2 3)) fun (z6 : Bool) =>
        optAll (tree_with.R a0 (c1).1 z3 z4 z5 a2) fun (c7 : (List (List DV) × Unit)) =>
        c = ((c7).1, ((0 : Int), ())))))) : R a0 a1_0 a1_1 a2 = some c := start_rule (n := 400) (lv := lv) (noSum_ok _) (by kernel_rfl) h
end tree_Mark
/-! garrison/tree.Root -/
namespace tree_Root
def lv : Live := []
theorem start (a0 : List (List DV)) (a1_0 : Int) (a1_1 : Int) (c : (List (List DV) × (Int × Unit))) (h :
    optAll (tree_right.R a0 (([[(DV.v (Value.int IntKind.i64 a1_0)), (DV.v (Value.int IntKind.i64 a1_1))]]).take (1))) fun (c0 : (Bool × Unit)) =>
    cond ((!(c0).1)) (
      c = (a0, ((2 : Int), ()))) (
      optAll (tree_add.R a0 (((a0).length : Nat) : Int) a1_0 a1_1 (0 : Int) false) fun (c1 : (List (List DV) × (Int × Unit))) =>
      c = ((c1).1, (((c1).2).1, ())))) : R a0 a1_0 a1_1 = some c := start_rule (n := 400) (lv := lv) (noSum_ok _) (by kernel_rfl) h
end tree_Root
/-! garrison/garrisonref13.Root -/
namespace ref13_Root
def lv : Live := []
theorem start (a0 : List (List DV)) (a1_0 : Int) (a1_1 : Int) (c : (List (List DV) × (Int × Unit))) (h :
    optAll (ref13_Find.R a0 a1_0 a1_1) fun (c0 : (Int × (Bool × Unit))) =>
    optAll (ref13_Is.R a0) fun (c1 : (Bool × Unit)) =>
    cond ((!(c1).1)) (
      c = (a0, ((2 : Int), ()))) (
      optAll (ref06_Is.R a1_0 a1_1) fun (c2 : (Bool × Unit)) =>
      cond ((!(c2).1)) (
        c = (a0, ((2 : Int), ()))) (
        cond (((c0).2).1) (
          c = (a0, ((8 : Int), ()))) (
          cond (decide (((((a0).length : Nat) : Int) ≥ (512 : Int)))) (
            c = (a0, ((6 : Int), ()))) (
            optAll (ref13_put.R a0 (((a0).length : Nat) : Int) a1_0 a1_1 (0 : Int) false) fun (c3 : (List (List DV) × Unit)) =>
            c = ((c3).1, ((0 : Int), ()))))))) : R a0 a1_0 a1_1 = some c := start_rule (n := 400) (lv := lv) (noSum_ok _) (by kernel_rfl) h
end ref13_Root
/-! garrison/garrisonref13.Insert -/
namespace ref13_Insert
def lv : Live := []
theorem start (a0 : List (List DV)) (a1_0 : Int) (a1_1 : Int) (a2_0 : Int) (a2_1 : Int) (c : (List (List DV) × (Int × Unit))) (h :
    optAll (ref13_Find.R a0 a1_0 a1_1) fun (c0 : (Int × (Bool × Unit))) =>
    optAll (ref13_Find.R a0 a2_0 a2_1) fun (c1 : (Int × (Bool × Unit))) =>
    optAll (ref13_Is.R a0) fun (c2 : (Bool × Unit)) =>
    cond ((!(c2).1)) (
      c = (a0, ((2 : Int), ()))) (
      optAll (ref06_Is.R a1_0 a1_1) fun (c3 : (Bool × Unit)) =>
      cond ((!(c3).1)) (
        c = (a0, ((2 : Int), ()))) (
        optAll (ref06_Is.R a2_0 a2_1) fun (c4 : (Bool × Unit)) =>
        cond ((!(c4).1)) (
          c = (a0, ((2 : Int), ()))) (
          cond ((!((c0).2).1)) (
            c = (a0, ((7 : Int), ()))) (
            cond (((c1).2).1) (
              c = (a0, ((8 : Int), ()))) (
              cond (decide (((((a0).length : Nat) : Int) ≥ (512 : Int)))) (
                c = (a0, ((6 : Int), ()))) (
                needs ((0 : Int) ≤ (c0).1) (
                optAll ((a0)[(Int.toNat (c0).1)]?) fun (r5 : List DV) =>
                optAll ((dInt IntKind.i64 r5 2)) fun (z6 : Int) =>
                optAll (ref13_put.R a0 (IntKind.i64.wrap ((c0).1 + (1 : Int))) a2_0 a2_1 (IntKind.i64.wrap (z6 + (1 : Int))) false) fun (c7 : (List (List DV) × Unit)) =>
                c = ((c7).1, ((0 : Int), ())))))))))) : R a0 a1_0 a1_1 a2_0 a2_1 = some c := start_rule (n := 400) (lv := lv) (noSum_ok _) (by kernel_rfl) h
end ref13_Insert
/-! garrison/garrisonref13.Remove -/
namespace ref13_Remove
def lv : Live := []
theorem start (a0 : List (List DV)) (a1_0 : Int) (a1_1 : Int) (c : (List (List DV) × (Int × Unit))) (h :
    optAll (ref13_Find.R a0 a1_0 a1_1) fun (c0 : (Int × (Bool × Unit))) =>
    optAll (ref13_Is.R a0) fun (c1 : (Bool × Unit)) =>
    cond ((!(c1).1)) (
      c = (a0, ((2 : Int), ()))) (
      optAll (ref06_Is.R a1_0 a1_1) fun (c2 : (Bool × Unit)) =>
      cond ((!(c2).1)) (
        c = (a0, ((2 : Int), ()))) (
        cond ((!((c0).2).1)) (
          c = (a0, ((7 : Int), ()))) (
          optAll (ref13_count.R a0 (c0).1) fun (c3 : (Int × Unit)) =>
          cond (decide (((c3).1 > (0 : Int)))) (
            c = (a0, ((130 : Int), ()))) (
            optAll (ref13_out.R a0 (c0).1) fun (c4 : (List (List DV) × Unit)) =>
            c = ((c4).1, ((0 : Int), ()))))))) : R a0 a1_0 a1_1 = some c := start_rule (n := 400) (lv := lv) (noSum_ok _) (by kernel_rfl) h
end ref13_Remove
/-! garrison/garrisonref13.Move -/
namespace ref13_Move
def lv : Live := []
theorem start (a0 : List (List DV)) (a1_0 : Int) (a1_1 : Int) (a2_0 : Int) (a2_1 : Int) (c : (List (List DV) × (Int × Unit))) (h :
    optAll (ref13_Find.R a0 a1_0 a1_1) fun (c0 : (Int × (Bool × Unit))) =>
    optAll (ref13_Find.R a0 a2_0 a2_1) fun (c1 : (Int × (Bool × Unit))) =>
    optAll (ref13_Is.R a0) fun (c2 : (Bool × Unit)) =>
    cond ((!(c2).1)) (
      c = (a0, ((2 : Int), ()))) (
      optAll (ref06_Is.R a1_0 a1_1) fun (c3 : (Bool × Unit)) =>
      cond ((!(c3).1)) (
        c = (a0, ((2 : Int), ()))) (
        optAll (ref06_Is.R a2_0 a2_1) fun (c4 : (Bool × Unit)) =>
        cond ((!(c4).1)) (
          c = (a0, ((2 : Int), ()))) (
          cond ((!((c0).2).1)) (
            c = (a0, ((7 : Int), ()))) (
            cond (((c1).2).1) (
              c = (a0, ((8 : Int), ()))) (
              needs ((0 : Int) ≤ (c0).1) (
              optAll ((a0)[(Int.toNat (c0).1)]?) fun (r5 : List DV) =>
              optAll ((dInt IntKind.i64 r5 0)) fun (z6 : Int) =>
              optAll ((dInt IntKind.i64 r5 1)) fun (z7 : Int) =>
              optAll ((dInt IntKind.i64 r5 2)) fun (z8 : Int) =>
              optAll ((dBool r5 3)) fun (z9 : Bool) =>
              optAll (ref13_out.R a0 (c0).1) fun (c10 : (List (List DV) × Unit)) =>
              optAll (ref13_put.R (c10).1 (c0).1 a2_0 a2_1 z8 z9) fun (c11 : (List (List DV) × Unit)) =>
              c = ((c11).1, ((0 : Int), ()))))))))) : R a0 a1_0 a1_1 a2_0 a2_1 = some c := start_rule (n := 400) (lv := lv) (noSum_ok _) (by kernel_rfl) h
end ref13_Move
/-! garrison/garrisonref13.Mark -/
namespace ref13_Mark
def lv : Live := []
theorem start (a0 : List (List DV)) (a1_0 : Int) (a1_1 : Int) (a2 : Bool) (c : (List (List DV) × (Int × Unit))) (h :
    optAll (ref13_Find.R a0 a1_0 a1_1) fun (c0 : (Int × (Bool × Unit))) =>
    optAll (ref13_Is.R a0) fun (c1 : (Bool × Unit)) =>
    cond ((!(c1).1)) (
      c = (a0, ((2 : Int), ()))) (
      optAll (ref06_Is.R a1_0 a1_1) fun (c2 : (Bool × Unit)) =>
      cond ((!(c2).1)) (
        c = (a0, ((2 : Int), ()))) (
        cond ((!((c0).2).1)) (
          c = (a0, ((7 : Int), ()))) (
          needs ((0 : Int) ≤ (c0).1) (
          optAll ((a0)[(Int.toNat (c0).1)]?) fun (r3 : List DV) =>
          optAll ((dInt IntKind.i64 r3 0)) fun (z4 : Int) =>
          optAll ((dInt IntKind.i64 r3 1)) fun (z5 : Int) =>
          optAll ((dInt IntKind.i64 r3 2)) fun (z6 : Int) =>
          optAll ((dBool r3 3)) fun (z7 : Bool) =>
          optAll (ref13_out.R a0 (c0).1) fun (c8 : (List (List DV) × Unit)) =>
          optAll (ref13_put.R (c8).1 (c0).1 z4 z5 z6 a2) fun (c9 : (List (List DV) × Unit)) =>
          c = ((c9).1, ((0 : Int), ()))))))) : R a0 a1_0 a1_1 a2 = some c := start_rule (n := 400) (lv := lv) (noSum_ok _) (by kernel_rfl) h
end ref13_Mark
/-! garrison/order.Check -/
namespace order_Check
def lv : Live := []
theorem start (a0_0 : Int) (a0_1 : Int) (c : (Int × Unit)) (h :
    cond (decide ((a0_0 < (0 : Int)))) (
      c = ((2 : Int), ())) (
      cond (decide ((a0_0 > (1023 : Int)))) (
        c = ((2 : Int), ())) (
        cond (decide ((a0_1 < (-1 : Int)))) (
          c = ((2 : Int), ())) (
          cond (decide ((a0_1 ≥ (8 : Int)))) (
            c = ((2 : Int), ())) (
            c = ((0 : Int), ())))))) : R a0_0 a0_1 = some c := start_rule (n := 400) (lv := lv) (noSum_ok _) (by kernel_rfl) h
end order_Check
/-! garrison/garrisonref06.Is -/
namespace ref06_Is
def lv : Live := []
theorem start (a0_0 : Int) (a0_1 : Int) (c : (Bool × Unit)) (h :
    cond (decide ((a0_0 ≥ (0 : Int)))) (
      cond (decide ((a0_0 ≤ (1023 : Int)))) (
        cond (decide ((a0_1 ≥ (-1 : Int)))) (
          c = (decide ((a0_1 ≤ (7 : Int))), ())) (
          c = (false, ()))) (
        c = (false, ()))) (
      c = (false, ()))) : R a0_0 a0_1 = some c := start_rule (n := 400) (lv := lv) (noSum_ok _) (by kernel_rfl) h
end ref06_Is
/-! slices.Equal[[]garrison/api.Branch,garrison/api.Branch] -/
namespace slices_Equal_api_Branch_api_Branch
def lv : Live := [((5, 1048576), [0, 1, 12, 13], [])]
abbrev H5 (x0 : List (List DV)) (x1 : List (List DV)) (x12 : Int) (x13 : Int) (c : (Bool × Unit)) : Prop := HeadAns cfg 75 sh lv (bd cfg 75 [1, 1, 0, 1, 0, 0]) 1048576 [.inBlock 0, .code (bd cfg 75 [1, 1, 1])]
  [(AV.d (DV.lst 4 x0)), (AV.d (DV.lst 4 x1)), (AV.d (DV.v (Value.int IntKind.i64 x12))), (AV.d (DV.v (Value.int IntKind.i64 x13)))] [] 1048576 c
theorem start (a0 : List (List DV)) (a1 : List (List DV)) (c : (Bool × Unit)) (h :
    cond (((((a0).length : Nat) : Int) != (((a1).length : Nat) : Int))) (
      c = (false, ())) (
      H5 a0 a1 (((a0).length : Nat) : Int) (0 : Int) c)) : R a0 a1 = some c := start_rule (n := 400) (lv := lv) (noSum_ok _) (by kernel_rfl) h
theorem H5_step (x0 : List (List DV)) (x1 : List (List DV)) (x12 : Int) (x13 : Int) (c : (Bool × Unit)) (h :
    cond (decide ((x13 < x12))) (
      needs ((0 : Int) ≤ x13) (
      optAll ((x0)[(Int.toNat x13)]?) fun (r0 : List DV) =>
      optAll ((dInt IntKind.i64 r0 0)) fun (z1 : Int) =>
      optAll ((dInt IntKind.i64 r0 1)) fun (z2 : Int) =>
      optAll ((dInt IntKind.i64 r0 2)) fun (z3 : Int) =>
      optAll ((dBool r0 3)) fun (z4 : Bool) =>
      needs ((0 : Int) ≤ x13) (
      optAll ((x1)[(Int.toNat x13)]?) fun (r5 : List DV) =>
      optAll ((dInt IntKind.i64 r5 0)) fun (z6 : Int) =>
      optAll ((dInt IntKind.i64 r5 1)) fun (z7 : Int) =>
      optAll ((dInt IntKind.i64 r5 2)) fun (z8 : Int) =>
      optAll ((dBool r5 3)) fun (z9 : Bool) =>
      cond ((!((z1 == z6) && ((z2 == z7) && ((z3 == z8) && ((z4 == z9) && true)))))) (
        c = (false, ())) (
        H5 x0 x1 x12 (IntKind.i64.wrap (x13 + (1 : Int))) c)))) (
      c = (true, ()))) : H5 x0 x1 x12 x13 c := head_rule (n := 400) (noSum_ok _) (by kernel_rfl) h
end slices_Equal_api_Branch_api_Branch
/-! slices.IndexFunc[[]garrison/api.Branch,garrison/api.Branch] -/
namespace slices_IndexFunc_api_Branch_api_Branch__tree_Find_1
def lv : Live := [((3, 1048576), [0, 1, 7, 8], [0])]
abbrev H3 (x0 : List (List DV)) (x7 : Int) (x8 : Int) (b0 : Int) (b0_1 : Int) (c : (Int × Unit)) : Prop := HeadAnsL wide cfg 76 sh lv (bd cfg 76 [1, 0, 1, 0, 0]) 1048576 [.inBlock 0, .code (bd cfg 76 [1, 1])]
  [(AV.d (DV.lst 4 x0)), (AV.fn 77 [(AV.ptr 0 0 0 0)]), (AV.d (DV.v (Value.int IntKind.i64 x7))), (AV.d (DV.v (Value.int IntKind.i64 x8)))] [(Option.some (VBlk.cell 2 0 [(AV.d (DV.v (Value.int IntKind.i64 b0))), (AV.d (DV.v (Value.int IntKind.i64 b0_1)))]))] 1048576 c
theorem start (a0 : List (List DV)) (b0 : Int) (b0_1 : Int) (c : (Int × Unit)) (h :
    H3 a0 (((a0).length : Nat) : Int) (0 : Int) b0 b0_1 c) : R a0 b0 b0_1 = some c := own_rule (n := 400) (lv := lv) (noSum_ok _) (by kernel_rfl) h
theorem H3_step (x0 : List (List DV)) (x7 : Int) (x8 : Int) (b0 : Int) (b0_1 : Int) (c : (Int × Unit)) (h :
    cond (decide ((x8 < x7))) (
      needs ((0 : Int) ≤ x8) (
      optAll ((x0)[(Int.toNat x8)]?) fun (r0 : List DV) =>
      optAll ((dInt IntKind.i64 r0 0)) fun (z1 : Int) =>
      optAll ((dInt IntKind.i64 r0 1)) fun (z2 : Int) =>
      optAll ((dInt IntKind.i64 r0 2)) fun (z3 : Int) =>
      optAll ((dBool r0 3)) fun (z4 : Bool) =>
      cond (((z1 == b0) && ((z2 == b0_1) && true))) (
        c = (x8, ())) (
        H3 x0 x7 (IntKind.i64.wrap (x8 + (1 : Int))) b0 b0_1 c))) (
      c = ((-1 : Int), ()))) : H3 x0 x7 x8 b0 b0_1 c := head_ruleL (n := 400) (noSum_ok _) (by kernel_rfl) h
end slices_IndexFunc_api_Branch_api_Branch__tree_Find_1
/-! garrison/garrisonref13.count -/
namespace ref13_count
def lv : Live := [((3, 1048576), [0, 1, 5], [])]
abbrev H3 (x0 : List (List DV)) (x1 : Int) (x5 : Int) (c : (Int × Unit)) : Prop := HeadAns cfg 80 sh lv (bd cfg 80 [1, 1, 0, 0, 0]) 1048576 [.inBlock 0, .code (bd cfg 80 [1, 1, 1])]
  [(AV.d (DV.lst 4 x0)), (AV.d (DV.v (Value.int IntKind.i64 x1))), (AV.d (DV.v (Value.int IntKind.i64 x5)))] [] 1048576 c
theorem start (a0 : List (List DV)) (a1 : Int) (c : (Int × Unit)) (h :
    H3 a0 a1 (0 : Int) c) : R a0 a1 = some c := start_rule (n := 400) (lv := lv) (noSum_ok _) (by kernel_rfl) h
theorem H3_step (x0 : List (List DV)) (x1 : Int) (x5 : Int) (c : (Int × Unit)) (h :
    cond (decide (((IntKind.i64.wrap ((IntKind.i64.wrap (x1 + (1 : Int))) + x5)) < (((x0).length : Nat) : Int)))) (
      needs ((0 : Int) ≤ (IntKind.i64.wrap ((IntKind.i64.wrap (x1 + (1 : Int))) + x5))) (
      optAll ((x0)[(Int.toNat (IntKind.i64.wrap ((IntKind.i64.wrap (x1 + (1 : Int))) + x5)))]?) fun (r0 : List DV) =>
      optAll ((dInt IntKind.i64 r0 2)) fun (z1 : Int) =>
      needs ((0 : Int) ≤ x1) (
      optAll ((x0)[(Int.toNat x1)]?) fun (r2 : List DV) =>
      optAll ((dInt IntKind.i64 r2 2)) fun (z3 : Int) =>
      cond (decide ((z1 > z3))) (
        H3 x0 x1 (IntKind.i64.wrap (x5 + (1 : Int))) c) (
        c = (x5, ()))))) (
      c = (x5, ()))) : H3 x0 x1 x5 c := head_rule (n := 400) (noSum_ok _) (by kernel_rfl) h
end ref13_count
/-! slices.Contains[[]garrison/api.Key,garrison/api.Key] -/
namespace slices_Contains_api_Key_api_Key
def lv : Live := []
theorem start (a0 : List (List DV)) (a1_0 : Int) (a1_1 : Int) (c : (Bool × Unit)) (h :
    optAll (slices_Index_api_Key_api_Key.R a0 a1_0 a1_1) fun (c0 : (Int × Unit)) =>
    c = (decide (((c0).1 ≥ (0 : Int))), ())) : R a0 a1_0 a1_1 = some c := start_rule (n := 400) (lv := lv) (noSum_ok _) (by kernel_rfl) h
end slices_Contains_api_Key_api_Key
/-! garrison/garrisonref06.Has -/
namespace ref06_Has
def lv : Live := [((3, 1048576), [0, 3, 5], [18])]
abbrev H3 (x0 : List (List DV)) (x5 : Int) (b18 : Int) (b18_1 : Int) (c : (Bool × Unit)) : Prop := HeadAns cfg 82 sh lv (bd cfg 82 [1, 0, 1, 0, 0]) 1048576 [.inBlock 0, .code (bd cfg 82 [1, 1])]
  [(AV.d (DV.lst 2 x0)), (AV.ptr 18 0 0 0), (AV.d (DV.v (Value.int IntKind.i64 x5)))] [(Option.some (VBlk.cell 2 0 [(AV.d (DV.v (Value.int IntKind.i64 b18))), (AV.d (DV.v (Value.int IntKind.i64 b18_1)))]))] 1048576 c
theorem start (a0 : List (List DV)) (a1_0 : Int) (a1_1 : Int) (c : (Bool × Unit)) (h :
    H3 a0 (0 : Int) a1_0 a1_1 c) : R a0 a1_0 a1_1 = some c := start_rule (n := 400) (lv := lv) (noSum_ok _) (by kernel_rfl) h
theorem H3_step (x0 : List (List DV)) (x5 : Int) (b18 : Int) (b18_1 : Int) (c : (Bool × Unit)) (h :
    cond (decide ((x5 < (((x0).length : Nat) : Int)))) (
      needs ((0 : Int) ≤ x5) (
      optAll ((x0)[(Int.toNat x5)]?) fun (r0 : List DV) =>
      optAll ((dInt IntKind.i64 r0 0)) fun (z1 : Int) =>
      optAll ((dInt IntKind.i64 r0 1)) fun (z2 : Int) =>
      cond (((z1 == b18) && ((z2 == b18_1) && true))) (
        c = (true, ())) (
        H3 x0 (IntKind.i64.wrap (x5 + (1 : Int))) b18 b18_1 c))) (
      c = (false, ()))) : H3 x0 x5 b18 b18_1 c := head_rule (n := 400) (noSum_ok _) (by kernel_rfl) h
end ref06_Has
/-! garrison/tree.right -/
namespace tree_right
def lv : Live := []
theorem start (a0 : List (List DV)) (a1 : List (List DV)) (c : (Bool × Unit)) (h :
    optAll (tree_Check.R a0) fun (c0 : (Int × Unit)) =>
    cond (((c0).1 == (0 : Int))) (
      optAll (slices_ContainsFunc_api_Key_api_Key__tree_right_1.R a1) fun (c1 : (Bool × Unit)) =>
      c = ((!(c1).1), ())) (
      c = (false, ()))) : R a0 a1 = some c := start_rule (n := 400) (lv := lv) (noSum_ok _) (by kernel_rfl) h
end tree_right
/-! garrison/tree.add -/
namespace tree_add
def lv : Live := []
theorem start (a0 : List (List DV)) (a1 : Int) (a2_0 : Int) (a2_1 : Int) (a2_2 : Int) (a2_3 : Bool) (c : (List (List DV) × (Int × Unit))) (h :
    optAll (tree_Find.R a0 a2_0 a2_1) fun (c0 : (Int × (Bool × Unit))) =>
    cond (((c0).2).1) (
      c = (a0, ((8 : Int), ()))) (
      cond (decide (((((a0).length : Nat) : Int) ≥ (512 : Int)))) (
        c = (a0, ((6 : Int), ()))) (
        optAll (tree_put.R a0 a1 a2_0 a2_1 a2_2 a2_3) fun (c1 : (List (List DV) × Unit)) =>
        c = ((c1).1, ((0 : Int), ()))))) : R a0 a1 a2_0 a2_1 a2_2 a2_3 = some c := start_rule (n := 400) (lv := lv) (noSum_ok _) (by kernel_rfl) h
end tree_add
/-! garrison/tree.with -/
namespace tree_with
def lv : Live := []
theorem start (a0 : List (List DV)) (a1 : Int) (a2_0 : Int) (a2_1 : Int) (a2_2 : Int) (a2_3 : Bool) (c : (List (List DV) × Unit)) (h :
    needs ((((a0).length * 32) ≤ 140737488355328) ∧ (((a0).length * 4) ≤ 140737488355328)) (
    needs (((0 : Int) ≤ a1) ∧ (a1 < (((a0).length : Nat) : Int))) (
    optAll ((a0)[(0 + (Int.toNat a1))]?) fun (r0 : List DV) =>
    needs (4 ≤ (r0).length) (
    c = (((((a0).set ((0 + (Int.toNat a1))) (putD r0 0 [(DV.v (Value.int IntKind.i64 a2_0)), (DV.v (Value.int IntKind.i64 a2_1)), (DV.v (Value.int IntKind.i64 a2_2)), (DV.v (Value.bool a2_3))]))).take ((a0).length)), ()))))) : R a0 a1 a2_0 a2_1 a2_2 a2_3 = some c := start_rule (n := 400) (lv := lv) (noSum_ok _) (by kernel_rfl) h
end tree_with
/-! garrison/garrisonref13.put -/
namespace ref13_put
def lv : Live := []
theorem start (a0 : List (List DV)) (a1 : Int) (a2_0 : Int) (a2_1 : Int) (a2_2 : Int) (a2_3 : Bool) (c : (List (List DV) × Unit)) (h :
    needs (((0 : Int) ≤ (0 : Int)) ∧ (((0 : Int) ≤ a1) ∧ (a1 ≤ (((a0).length : Nat) : Int)))) (
    needs ((((((a0).take ((Int.toNat a1)))).length * 32) ≤ 140737488355328) ∧ (((((a0).take ((Int.toNat a1)))).length * 4) ≤ 140737488355328)) (
    needs ((((a0).take ((Int.toNat a1)))).length = (((a0).take ((Int.toNat a1)))).length) (
    needs (((((((a0).take ((Int.toNat a1))) ++ (([[(DV.v (Value.int IntKind.i64 a2_0)), (DV.v (Value.int IntKind.i64 a2_1)), (DV.v (Value.int IntKind.i64 a2_2)), (DV.v (Value.bool a2_3))]]).take (1)))).length * 32) ≤ 140737488355328) ∧ ((((((a0).take ((Int.toNat a1))) ++ (([[(DV.v (Value.int IntKind.i64 a2_0)), (DV.v (Value.int IntKind.i64 a2_1)), (DV.v (Value.int IntKind.i64 a2_2)), (DV.v (Value.bool a2_3))]]).take (1)))).length * 4) ≤ 140737488355328)) (
    needs (((0 : Int) ≤ a1) ∧ ((a1 ≤ (((a0).length : Nat) : Int)) ∧ ((((a0).length : Nat) : Int) ≤ (((a0).length : Nat) : Int)))) (
    needs (((((a0).take ((Int.toNat a1))) ++ (([[(DV.v (Value.int IntKind.i64 a2_0)), (DV.v (Value.int IntKind.i64 a2_1)), (DV.v (Value.int IntKind.i64 a2_2)), (DV.v (Value.bool a2_3))]]).take (1)))).length = ((((a0).take ((Int.toNat a1))) ++ (([[(DV.v (Value.int IntKind.i64 a2_0)), (DV.v (Value.int IntKind.i64 a2_1)), (DV.v (Value.int IntKind.i64 a2_2)), (DV.v (Value.bool a2_3))]]).take (1)))).length) (
    needs ((((((((a0).take ((Int.toNat a1))) ++ (([[(DV.v (Value.int IntKind.i64 a2_0)), (DV.v (Value.int IntKind.i64 a2_1)), (DV.v (Value.int IntKind.i64 a2_2)), (DV.v (Value.bool a2_3))]]).take (1))) ++ ((((a0).take ((Int.toNat (((a0).length : Nat) : Int))))).drop ((Int.toNat a1))))).length * 32) ≤ 140737488355328) ∧ (((((((a0).take ((Int.toNat a1))) ++ (([[(DV.v (Value.int IntKind.i64 a2_0)), (DV.v (Value.int IntKind.i64 a2_1)), (DV.v (Value.int IntKind.i64 a2_2)), (DV.v (Value.bool a2_3))]]).take (1))) ++ ((((a0).take ((Int.toNat (((a0).length : Nat) : Int))))).drop ((Int.toNat a1))))).length * 4) ≤ 140737488355328)) (
    c = (((((((a0).take ((Int.toNat a1))) ++ (([[(DV.v (Value.int IntKind.i64 a2_0)), (DV.v (Value.int IntKind.i64 a2_1)), (DV.v (Value.int IntKind.i64 a2_2)), (DV.v (Value.bool a2_3))]]).take (1))) ++ ((((a0).take ((Int.toNat (((a0).length : Nat) : Int))))).drop ((Int.toNat a1))))).take ((((((a0).take ((Int.toNat a1))) ++ (([[(DV.v (Value.int IntKind.i64 a2_0)), (DV.v (Value.int IntKind.i64 a2_1)), (DV.v (Value.int IntKind.i64 a2_2)), (DV.v (Value.bool a2_3))]]).take (1))) ++ ((((a0).take ((Int.toNat (((a0).length : Nat) : Int))))).drop ((Int.toNat a1))))).length)), ()))))))))) : R a0 a1 a2_0 a2_1 a2_2 a2_3 = some c := start_rule (n := 400) (lv := lv) (noSum_ok _) (by kernel_rfl) h
end ref13_put
/-! garrison/garrisonref13.out -/
namespace ref13_out
def lv : Live := []
theorem start (a0 : List (List DV)) (a1 : Int) (c : (List (List DV) × Unit)) (h :
    needs (((0 : Int) ≤ (0 : Int)) ∧ (((0 : Int) ≤ a1) ∧ (a1 ≤ (((a0).length : Nat) : Int)))) (
    needs ((((((a0).take ((Int.toNat a1)))).length * 32) ≤ 140737488355328) ∧ (((((a0).take ((Int.toNat a1)))).length * 4) ≤ 140737488355328)) (
    needs (((0 : Int) ≤ (IntKind.i64.wrap (a1 + (1 : Int)))) ∧ (((IntKind.i64.wrap (a1 + (1 : Int))) ≤ (((a0).length : Nat) : Int)) ∧ ((((a0).length : Nat) : Int) ≤ (((a0).length : Nat) : Int)))) (
    needs ((((a0).take ((Int.toNat a1)))).length = (((a0).take ((Int.toNat a1)))).length) (
    needs (((((((a0).take ((Int.toNat a1))) ++ ((((a0).take ((Int.toNat (((a0).length : Nat) : Int))))).drop ((Int.toNat (IntKind.i64.wrap (a1 + (1 : Int)))))))).length * 32) ≤ 140737488355328) ∧ ((((((a0).take ((Int.toNat a1))) ++ ((((a0).take ((Int.toNat (((a0).length : Nat) : Int))))).drop ((Int.toNat (IntKind.i64.wrap (a1 + (1 : Int)))))))).length * 4) ≤ 140737488355328)) (
    c = ((((((a0).take ((Int.toNat a1))) ++ ((((a0).take ((Int.toNat (((a0).length : Nat) : Int))))).drop ((Int.toNat (IntKind.i64.wrap (a1 + (1 : Int)))))))).take (((((a0).take ((Int.toNat a1))) ++ ((((a0).take ((Int.toNat (((a0).length : Nat) : Int))))).drop ((Int.toNat (IntKind.i64.wrap (a1 + (1 : Int)))))))).length)), ()))))))) : R a0 a1 = some c := start_rule (n := 400) (lv := lv) (noSum_ok _) (by kernel_rfl) h
end ref13_out
/-! slices.Index[[]garrison/api.Key,garrison/api.Key] -/
namespace slices_Index_api_Key_api_Key
def lv : Live := [((3, 1048576), [0, 3, 7, 8], [19])]
abbrev H3 (x0 : List (List DV)) (x7 : Int) (x8 : Int) (b19 : Int) (b19_1 : Int) (c : (Int × Unit)) : Prop := HeadAns cfg 57 sh lv (bd cfg 57 [1, 0, 1, 0, 0]) 1048576 [.inBlock 0, .code (bd cfg 57 [1, 1])]
  [(AV.d (DV.lst 2 x0)), (AV.ptr 19 0 0 0), (AV.d (DV.v (Value.int IntKind.i64 x7))), (AV.d (DV.v (Value.int IntKind.i64 x8)))] [(Option.some (VBlk.cell 2 0 [(AV.d (DV.v (Value.int IntKind.i64 b19))), (AV.d (DV.v (Value.int IntKind.i64 b19_1)))]))] 1048576 c
theorem start (a0 : List (List DV)) (a1_0 : Int) (a1_1 : Int) (c : (Int × Unit)) (h :
    H3 a0 (((a0).length : Nat) : Int) (0 : Int) a1_0 a1_1 c) : R a0 a1_0 a1_1 = some c := start_rule (n := 400) (lv := lv) (noSum_ok _) (by kernel_rfl) h
theorem H3_step (x0 : List (List DV)) (x7 : Int) (x8 : Int) (b19 : Int) (b19_1 : Int) (c : (Int × Unit)) (h :
    cond (decide ((x8 < x7))) (
      needs ((0 : Int) ≤ x8) (
      optAll ((x0)[(Int.toNat x8)]?) fun (r0 : List DV) =>
      optAll ((dInt IntKind.i64 r0 0)) fun (z1 : Int) =>
      optAll ((dInt IntKind.i64 r0 1)) fun (z2 : Int) =>
      cond (((b19 == z1) && ((b19_1 == z2) && true))) (
        c = (x8, ())) (
        H3 x0 x7 (IntKind.i64.wrap (x8 + (1 : Int))) b19 b19_1 c))) (
      c = ((-1 : Int), ()))) : H3 x0 x7 x8 b19 b19_1 c := head_rule (n := 400) (noSum_ok _) (by kernel_rfl) h
end slices_Index_api_Key_api_Key
/-! slices.ContainsFunc[[]garrison/api.Key,garrison/api.Key] -/
namespace slices_ContainsFunc_api_Key_api_Key__tree_right_1
def lv : Live := []
theorem start (a0 : List (List DV)) (c : (Bool × Unit)) (h :
    optAll (slices_IndexFunc_api_Key_api_Key__tree_right_1.R a0) fun (c0 : (Int × Unit)) =>
    c = (decide (((c0).1 ≥ (0 : Int))), ())) : R a0 = some c := start_rule (n := 400) (lv := lv) (noSum_ok _) (by kernel_rfl) h
end slices_ContainsFunc_api_Key_api_Key__tree_right_1
/-! garrison/tree.put -/
namespace tree_put
def lv : Live := []
theorem start (a0 : List (List DV)) (a1 : Int) (a2_0 : Int) (a2_1 : Int) (a2_2 : Int) (a2_3 : Bool) (c : (List (List DV) × Unit)) (h :
    needs (a1 = a1) (
    needs (((0 : Int) ≤ (0 : Int)) ∧ (((0 : Int) ≤ a1) ∧ (a1 ≤ (((a0).length : Nat) : Int)))) (
    needs (((((((a0).take ((Int.toNat a1))) ++ (([[(DV.v (Value.int IntKind.i64 a2_0)), (DV.v (Value.int IntKind.i64 a2_1)), (DV.v (Value.int IntKind.i64 a2_2)), (DV.v (Value.bool a2_3))]]).take (1)))).length * 32) ≤ 140737488355328) ∧ ((((((a0).take ((Int.toNat a1))) ++ (([[(DV.v (Value.int IntKind.i64 a2_0)), (DV.v (Value.int IntKind.i64 a2_1)), (DV.v (Value.int IntKind.i64 a2_2)), (DV.v (Value.bool a2_3))]]).take (1)))).length * 4) ≤ 140737488355328)) (
    needs (((0 : Int) ≤ a1) ∧ ((a1 ≤ (((a0).length : Nat) : Int)) ∧ ((((a0).length : Nat) : Int) ≤ (((a0).length : Nat) : Int)))) (
    needs (((((a0).take ((Int.toNat a1))) ++ (([[(DV.v (Value.int IntKind.i64 a2_0)), (DV.v (Value.int IntKind.i64 a2_1)), (DV.v (Value.int IntKind.i64 a2_2)), (DV.v (Value.bool a2_3))]]).take (1)))).length = ((((a0).take ((Int.toNat a1))) ++ (([[(DV.v (Value.int IntKind.i64 a2_0)), (DV.v (Value.int IntKind.i64 a2_1)), (DV.v (Value.int IntKind.i64 a2_2)), (DV.v (Value.bool a2_3))]]).take (1)))).length) (
    needs ((((((((a0).take ((Int.toNat a1))) ++ (([[(DV.v (Value.int IntKind.i64 a2_0)), (DV.v (Value.int IntKind.i64 a2_1)), (DV.v (Value.int IntKind.i64 a2_2)), (DV.v (Value.bool a2_3))]]).take (1))) ++ ((((a0).take ((Int.toNat (((a0).length : Nat) : Int))))).drop ((Int.toNat a1))))).length * 32) ≤ 140737488355328) ∧ (((((((a0).take ((Int.toNat a1))) ++ (([[(DV.v (Value.int IntKind.i64 a2_0)), (DV.v (Value.int IntKind.i64 a2_1)), (DV.v (Value.int IntKind.i64 a2_2)), (DV.v (Value.bool a2_3))]]).take (1))) ++ ((((a0).take ((Int.toNat (((a0).length : Nat) : Int))))).drop ((Int.toNat a1))))).length * 4) ≤ 140737488355328)) (
    c = (((((((a0).take ((Int.toNat a1))) ++ (([[(DV.v (Value.int IntKind.i64 a2_0)), (DV.v (Value.int IntKind.i64 a2_1)), (DV.v (Value.int IntKind.i64 a2_2)), (DV.v (Value.bool a2_3))]]).take (1))) ++ ((((a0).take ((Int.toNat (((a0).length : Nat) : Int))))).drop ((Int.toNat a1))))).take ((((((a0).take ((Int.toNat a1))) ++ (([[(DV.v (Value.int IntKind.i64 a2_0)), (DV.v (Value.int IntKind.i64 a2_1)), (DV.v (Value.int IntKind.i64 a2_2)), (DV.v (Value.bool a2_3))]]).take (1))) ++ ((((a0).take ((Int.toNat (((a0).length : Nat) : Int))))).drop ((Int.toNat a1))))).length)), ())))))))) : R a0 a1 a2_0 a2_1 a2_2 a2_3 = some c := start_rule (n := 400) (lv := lv) (noSum_ok _) (by kernel_rfl) h
end tree_put
/-! slices.IndexFunc[[]garrison/api.Key,garrison/api.Key] -/
namespace slices_IndexFunc_api_Key_api_Key__tree_right_1
def lv : Live := [((3, 1048576), [0, 1, 7, 8], [])]
abbrev H3 (x0 : List (List DV)) (x7 : Int) (x8 : Int) (c : (Int × Unit)) : Prop := HeadAns cfg 95 sh lv (bd cfg 95 [1, 0, 1, 0, 0]) 1048576 [.inBlock 0, .code (bd cfg 95 [1, 1])]
  [(AV.d (DV.lst 2 x0)), (AV.d (DV.fn 91 [])), (AV.d (DV.v (Value.int IntKind.i64 x7))), (AV.d (DV.v (Value.int IntKind.i64 x8)))] [] 1048576 c
theorem start (a0 : List (List DV)) (c : (Int × Unit)) (h :
    H3 a0 (((a0).length : Nat) : Int) (0 : Int) c) : R a0 = some c := start_rule (n := 400) (lv := lv) (noSum_ok _) (by kernel_rfl) h
theorem H3_step (x0 : List (List DV)) (x7 : Int) (x8 : Int) (c : (Int × Unit)) (h :
    cond (decide ((x8 < x7))) (
      needs ((0 : Int) ≤ x8) (
      optAll ((x0)[(Int.toNat x8)]?) fun (r0 : List DV) =>
      optAll ((dInt IntKind.i64 r0 0)) fun (z1 : Int) =>
      optAll ((dInt IntKind.i64 r0 1)) fun (z2 : Int) =>
      optAll (tree_right_1.R z1 z2) fun (c3 : (Bool × Unit)) =>
      cond ((c3).1) (
        c = (x8, ())) (
        H3 x0 x7 (IntKind.i64.wrap (x8 + (1 : Int))) c))) (
      c = ((-1 : Int), ()))) : H3 x0 x7 x8 c := head_rule (n := 400) (noSum_ok _) (by kernel_rfl) h
end slices_IndexFunc_api_Key_api_Key__tree_right_1
/-! garrison/tree.right$1 -/
namespace tree_right_1
def lv : Live := []
theorem start (a0_0 : Int) (a0_1 : Int) (c : (Bool × Unit)) (h :
    optAll (order_Check.R a0_0 a0_1) fun (c0 : (Int × Unit)) =>
    c = (((c0).1 != (0 : Int)), ())) : R a0_0 a0_1 = some c := start_rule (n := 400) (lv := lv) (noSum_ok _) (by kernel_rfl) h
end tree_right_1
end Go.AI
