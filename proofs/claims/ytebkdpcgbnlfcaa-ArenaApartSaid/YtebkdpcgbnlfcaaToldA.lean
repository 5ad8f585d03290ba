/-
  Own work: printed by Tell, a program of this work: what each function's body does over symbols.
-/
import Derived.Test.YtebkdpcgbnlfcaaCfg
import Derived.KernelRfl
namespace Go.AI
open Go
set_option maxRecDepth 100000
set_option linter.unusedVariables false
set_option linter.unusedSimpArgs false
/-! garrison/garrisonlaw09.ArenaSteps -/
namespace law09_ArenaSteps
abbrev sh : List Sh := [.one (.bool)]
noncomputable abbrev R (a0_0 : List (List DV)) (a0_1 : List (List DV)) (a1_0 : Int) (a1_1 : Int) (a1_2 : Int) (a1_3 : Int) (a1_4 : Int) (a1_5 : Int) (a1_6 : Int) (a1_7 : Int) (a1_8 : Int) (a1_9 : Int) (a1_10 : Int) (a1_11 : Int) : Option (Bool × Unit) := retω cfg sh 3 [(AV.agg [(AV.d (DV.lst 8 a0_0)), (AV.d (DV.lst 1 a0_1))]), (AV.agg [(AV.d (DV.v (Value.int IntKind.i64 a1_0))), (AV.d (DV.v (Value.int IntKind.i64 a1_1))), (AV.d (DV.v (Value.int IntKind.i64 a1_2))), (AV.d (DV.v (Value.int IntKind.i64 a1_3))), (AV.d (DV.v (Value.int IntKind.i64 a1_4))), (AV.d (DV.v (Value.int IntKind.i64 a1_5))), (AV.d (DV.v (Value.int IntKind.i64 a1_6))), (AV.d (DV.v (Value.int IntKind.i64 a1_7))), (AV.d (DV.v (Value.int IntKind.i64 a1_8))), (AV.d (DV.v (Value.int IntKind.i64 a1_9))), (AV.d (DV.v (Value.int IntKind.i64 a1_10))), (AV.d (DV.v (Value.int IntKind.i64 a1_11)))])]
end law09_ArenaSteps
/-! garrison/garrisonlaw09.small -/
namespace law09_small
abbrev sh : List Sh := [.one (.bool)]
noncomputable abbrev R (a0_0 : List (List DV)) (a0_1 : List (List DV)) : Option (Bool × Unit) := retω cfg sh 8 [(AV.agg [(AV.d (DV.lst 8 a0_0)), (AV.d (DV.lst 1 a0_1))])]
end law09_small
/-! garrison/garrisonlaw09.live -/
namespace law09_live
abbrev sh : List Sh := [.one (.bool)]
noncomputable abbrev R : Option (Bool × Unit) := retω cfg sh 9 []
end law09_live
/-! garrison/garrisonlaw09.own -/
namespace law09_own
abbrev sh : List Sh := [.agg [.lst 8, .lst 1]]
noncomputable abbrev R (a0_0 : List (List DV)) (a0_1 : List (List DV)) : Option ((List (List DV) × (List (List DV) × Unit)) × Unit) := retω cfg sh 10 [(AV.agg [(AV.d (DV.lst 8 a0_0)), (AV.d (DV.lst 1 a0_1))])]
end law09_own
/-! garrison/garrisonlaw09.does -/
namespace law09_does
abbrev sh : List Sh := [.agg [.lst 8, .lst 1], .one (.int .i64), .one (.int .i64)]
noncomputable abbrev R (a0_0 : List (List DV)) (a0_1 : List (List DV)) (a1_0 : Int) (a1_1 : Int) (a1_2 : Int) (a1_3 : Int) (a1_4 : Int) (a1_5 : Int) (a1_6 : Int) (a1_7 : Int) (a1_8 : Int) (a1_9 : Int) (a1_10 : Int) (a1_11 : Int) : Option ((List (List DV) × (List (List DV) × Unit)) × (Int × (Int × Unit))) := retω cfg sh 11 [(AV.agg [(AV.d (DV.lst 8 a0_0)), (AV.d (DV.lst 1 a0_1))]), (AV.agg [(AV.d (DV.v (Value.int IntKind.i64 a1_0))), (AV.d (DV.v (Value.int IntKind.i64 a1_1))), (AV.d (DV.v (Value.int IntKind.i64 a1_2))), (AV.d (DV.v (Value.int IntKind.i64 a1_3))), (AV.d (DV.v (Value.int IntKind.i64 a1_4))), (AV.d (DV.v (Value.int IntKind.i64 a1_5))), (AV.d (DV.v (Value.int IntKind.i64 a1_6))), (AV.d (DV.v (Value.int IntKind.i64 a1_7))), (AV.d (DV.v (Value.int IntKind.i64 a1_8))), (AV.d (DV.v (Value.int IntKind.i64 a1_9))), (AV.d (DV.v (Value.int IntKind.i64 a1_10))), (AV.d (DV.v (Value.int IntKind.i64 a1_11)))])]
end law09_does
/-! garrison/garrisonlaw09.model -/
namespace law09_model
abbrev sh : List Sh := [.agg [.lst 8, .lst 1], .one (.int .i64), .one (.int .i64)]
noncomputable abbrev R (a0_0 : List (List DV)) (a0_1 : List (List DV)) (a1_0 : Int) (a1_1 : Int) (a1_2 : Int) (a1_3 : Int) (a1_4 : Int) (a1_5 : Int) (a1_6 : Int) (a1_7 : Int) (a1_8 : Int) (a1_9 : Int) (a1_10 : Int) (a1_11 : Int) : Option ((List (List DV) × (List (List DV) × Unit)) × (Int × (Int × Unit))) := retω cfg sh 12 [(AV.agg [(AV.d (DV.lst 8 a0_0)), (AV.d (DV.lst 1 a0_1))]), (AV.agg [(AV.d (DV.v (Value.int IntKind.i64 a1_0))), (AV.d (DV.v (Value.int IntKind.i64 a1_1))), (AV.d (DV.v (Value.int IntKind.i64 a1_2))), (AV.d (DV.v (Value.int IntKind.i64 a1_3))), (AV.d (DV.v (Value.int IntKind.i64 a1_4))), (AV.d (DV.v (Value.int IntKind.i64 a1_5))), (AV.d (DV.v (Value.int IntKind.i64 a1_6))), (AV.d (DV.v (Value.int IntKind.i64 a1_7))), (AV.d (DV.v (Value.int IntKind.i64 a1_8))), (AV.d (DV.v (Value.int IntKind.i64 a1_9))), (AV.d (DV.v (Value.int IntKind.i64 a1_10))), (AV.d (DV.v (Value.int IntKind.i64 a1_11)))])]
end law09_model
/-! garrison/garrisonref09.Same -/
namespace ref09_Same
abbrev sh : List Sh := [.one (.bool)]
noncomputable abbrev R (a0_0 : List (List DV)) (a0_1 : List (List DV)) (a1_0 : List (List DV)) (a1_1 : List (List DV)) : Option (Bool × Unit) := retω cfg sh 13 [(AV.agg [(AV.d (DV.lst 8 a0_0)), (AV.d (DV.lst 1 a0_1))]), (AV.agg [(AV.d (DV.lst 8 a1_0)), (AV.d (DV.lst 1 a1_1))])]
end ref09_Same
/-! garrison/arena.Take -/
namespace arena_Take
abbrev sh : List Sh := [.agg [.lst 8, .lst 1], .one (.int .i64), .one (.int .i64)]
noncomputable abbrev R (a0_0 : List (List DV)) (a0_1 : List (List DV)) (a1 : Int) (a2_0 : Int) (a2_1 : Int) (a2_2 : Int) (a2_3 : Int) (a2_4 : Int) (a2_5 : Int) (a2_6 : Int) (a2_7 : Int) : Option ((List (List DV) × (List (List DV) × Unit)) × (Int × (Int × Unit))) := retω cfg sh 19 [(AV.agg [(AV.d (DV.lst 8 a0_0)), (AV.d (DV.lst 1 a0_1))]), (AV.d (DV.v (Value.int IntKind.i64 a1))), (AV.agg [(AV.d (DV.v (Value.int IntKind.i64 a2_0))), (AV.d (DV.v (Value.int IntKind.i64 a2_1))), (AV.d (DV.v (Value.int IntKind.i64 a2_2))), (AV.d (DV.v (Value.int IntKind.i64 a2_3))), (AV.d (DV.v (Value.int IntKind.i64 a2_4))), (AV.d (DV.v (Value.int IntKind.i64 a2_5))), (AV.d (DV.v (Value.int IntKind.i64 a2_6))), (AV.d (DV.v (Value.int IntKind.i64 a2_7)))])]
end arena_Take
/-! garrison/garrisonlaw09.num -/
namespace law09_num
abbrev sh : List Sh := [.one (.int .i64)]
noncomputable abbrev R (a0 : Int) : Option (Int × Unit) := retω cfg sh 15 [(AV.d (DV.v (Value.int IntKind.i64 a0)))]
end law09_num
/-! garrison/arena.Drop -/
namespace arena_Drop
abbrev sh : List Sh := [.agg [.lst 8, .lst 1], .one (.int .i64)]
noncomputable abbrev R (a0_0 : List (List DV)) (a0_1 : List (List DV)) (a1 : Int) : Option ((List (List DV) × (List (List DV) × Unit)) × (Int × Unit)) := retω cfg sh 22 [(AV.agg [(AV.d (DV.lst 8 a0_0)), (AV.d (DV.lst 1 a0_1))]), (AV.d (DV.v (Value.int IntKind.i64 a1)))]
end arena_Drop
/-! garrison/arena.Give -/
namespace arena_Give
abbrev sh : List Sh := [.agg [.lst 8, .lst 1], .one (.int .i64)]
noncomputable abbrev R (a0_0 : List (List DV)) (a0_1 : List (List DV)) (a1 : Int) (a2 : Int) : Option ((List (List DV) × (List (List DV) × Unit)) × (Int × Unit)) := retω cfg sh 23 [(AV.agg [(AV.d (DV.lst 8 a0_0)), (AV.d (DV.lst 1 a0_1))]), (AV.d (DV.v (Value.int IntKind.i64 a1))), (AV.d (DV.v (Value.int IntKind.i64 a2)))]
end arena_Give
/-! garrison/arena.Refer -/
namespace arena_Refer
abbrev sh : List Sh := [.agg [.lst 8, .lst 1], .one (.int .i64)]
noncomputable abbrev R (a0_0 : List (List DV)) (a0_1 : List (List DV)) (a1 : Int) (a2 : Int) : Option ((List (List DV) × (List (List DV) × Unit)) × (Int × Unit)) := retω cfg sh 21 [(AV.agg [(AV.d (DV.lst 8 a0_0)), (AV.d (DV.lst 1 a0_1))]), (AV.d (DV.v (Value.int IntKind.i64 a1))), (AV.d (DV.v (Value.int IntKind.i64 a2)))]
end arena_Refer
/-! garrison/garrisonref09.Take -/
namespace ref09_Take
abbrev sh : List Sh := [.agg [.lst 8, .lst 1], .one (.int .i64), .one (.int .i64)]
noncomputable abbrev R (a0_0 : List (List DV)) (a0_1 : List (List DV)) (a1 : Int) (a2_0 : Int) (a2_1 : Int) (a2_2 : Int) (a2_3 : Int) (a2_4 : Int) (a2_5 : Int) (a2_6 : Int) (a2_7 : Int) : Option ((List (List DV) × (List (List DV) × Unit)) × (Int × (Int × Unit))) := retω cfg sh 25 [(AV.agg [(AV.d (DV.lst 8 a0_0)), (AV.d (DV.lst 1 a0_1))]), (AV.d (DV.v (Value.int IntKind.i64 a1))), (AV.agg [(AV.d (DV.v (Value.int IntKind.i64 a2_0))), (AV.d (DV.v (Value.int IntKind.i64 a2_1))), (AV.d (DV.v (Value.int IntKind.i64 a2_2))), (AV.d (DV.v (Value.int IntKind.i64 a2_3))), (AV.d (DV.v (Value.int IntKind.i64 a2_4))), (AV.d (DV.v (Value.int IntKind.i64 a2_5))), (AV.d (DV.v (Value.int IntKind.i64 a2_6))), (AV.d (DV.v (Value.int IntKind.i64 a2_7)))])]
end ref09_Take
/-! garrison/garrisonref09.Drop -/
namespace ref09_Drop
abbrev sh : List Sh := [.agg [.lst 8, .lst 1], .one (.int .i64)]
noncomputable abbrev R (a0_0 : List (List DV)) (a0_1 : List (List DV)) (a1 : Int) : Option ((List (List DV) × (List (List DV) × Unit)) × (Int × Unit)) := retω cfg sh 26 [(AV.agg [(AV.d (DV.lst 8 a0_0)), (AV.d (DV.lst 1 a0_1))]), (AV.d (DV.v (Value.int IntKind.i64 a1)))]
end ref09_Drop
/-! garrison/garrisonref09.Give -/
namespace ref09_Give
abbrev sh : List Sh := [.agg [.lst 8, .lst 1], .one (.int .i64)]
noncomputable abbrev R (a0_0 : List (List DV)) (a0_1 : List (List DV)) (a1 : Int) (a2 : Int) : Option ((List (List DV) × (List (List DV) × Unit)) × (Int × Unit)) := retω cfg sh 27 [(AV.agg [(AV.d (DV.lst 8 a0_0)), (AV.d (DV.lst 1 a0_1))]), (AV.d (DV.v (Value.int IntKind.i64 a1))), (AV.d (DV.v (Value.int IntKind.i64 a2)))]
end ref09_Give
/-! garrison/garrisonref09.Refer -/
namespace ref09_Refer
abbrev sh : List Sh := [.agg [.lst 8, .lst 1], .one (.int .i64)]
noncomputable abbrev R (a0_0 : List (List DV)) (a0_1 : List (List DV)) (a1 : Int) (a2 : Int) : Option ((List (List DV) × (List (List DV) × Unit)) × (Int × Unit)) := retω cfg sh 28 [(AV.agg [(AV.d (DV.lst 8 a0_0)), (AV.d (DV.lst 1 a0_1))]), (AV.d (DV.v (Value.int IntKind.i64 a1))), (AV.d (DV.v (Value.int IntKind.i64 a2)))]
end ref09_Refer
/-! garrison/garrisonref07.Ints -/
namespace ref07_Ints
abbrev sh : List Sh := [.one (.bool)]
noncomputable abbrev R (a0 : List (List DV)) (a1 : List (List DV)) : Option (Bool × Unit) := retω cfg sh 29 [(AV.d (DV.lst 1 a0)), (AV.d (DV.lst 1 a1))]
end ref07_Ints
/-! garrison/arena.isLive -/
namespace arena_isLive
abbrev sh : List Sh := [.one (.bool)]
noncomputable abbrev R (a0_0 : Int) (a0_1 : Int) (a0_2 : Int) (a0_3 : Int) (a0_4 : Int) (a0_5 : Int) (a0_6 : Int) (a0_7 : Int) : Option (Bool × Unit) := retω cfg sh 31 [(AV.agg [(AV.d (DV.v (Value.int IntKind.i64 a0_0))), (AV.d (DV.v (Value.int IntKind.i64 a0_1))), (AV.d (DV.v (Value.int IntKind.i64 a0_2))), (AV.d (DV.v (Value.int IntKind.i64 a0_3))), (AV.d (DV.v (Value.int IntKind.i64 a0_4))), (AV.d (DV.v (Value.int IntKind.i64 a0_5))), (AV.d (DV.v (Value.int IntKind.i64 a0_6))), (AV.d (DV.v (Value.int IntKind.i64 a0_7)))])]
end arena_isLive
/-! garrison/arena.Check -/
namespace arena_Check
abbrev sh : List Sh := [.one (.int .i64)]
noncomputable abbrev R (a0_0 : List (List DV)) (a0_1 : List (List DV)) : Option (Int × Unit) := retω cfg sh 17 [(AV.agg [(AV.d (DV.lst 8 a0_0)), (AV.d (DV.lst 1 a0_1))])]
end arena_Check
/-! garrison/arena.list -/
namespace arena_list
abbrev sh : List Sh := [.agg [.lst 8, .lst 1]]
noncomputable abbrev R (a0_0 : List (List DV)) (a0_1 : List (List DV)) (a1 : Int) (a2 : List (List DV)) : Option ((List (List DV) × (List (List DV) × Unit)) × Unit) := retω cfg sh 34 [(AV.agg [(AV.d (DV.lst 8 a0_0)), (AV.d (DV.lst 1 a0_1))]), (AV.d (DV.v (Value.int IntKind.i64 a1))), (AV.d (DV.lst 1 a2))]
end arena_list
/-! garrison/arena.put -/
namespace arena_put
abbrev sh : List Sh := [.agg [.lst 8, .lst 1]]
noncomputable abbrev R (a0_0 : List (List DV)) (a0_1 : List (List DV)) (a1 : Int) (a2_0 : Int) (a2_1 : Int) (a2_2 : Int) (a2_3 : Int) (a2_4 : Int) (a2_5 : Int) (a2_6 : Int) (a2_7 : Int) : Option ((List (List DV) × (List (List DV) × Unit)) × Unit) := retω cfg sh 33 [(AV.agg [(AV.d (DV.lst 8 a0_0)), (AV.d (DV.lst 1 a0_1))]), (AV.d (DV.v (Value.int IntKind.i64 a1))), (AV.agg [(AV.d (DV.v (Value.int IntKind.i64 a2_0))), (AV.d (DV.v (Value.int IntKind.i64 a2_1))), (AV.d (DV.v (Value.int IntKind.i64 a2_2))), (AV.d (DV.v (Value.int IntKind.i64 a2_3))), (AV.d (DV.v (Value.int IntKind.i64 a2_4))), (AV.d (DV.v (Value.int IntKind.i64 a2_5))), (AV.d (DV.v (Value.int IntKind.i64 a2_6))), (AV.d (DV.v (Value.int IntKind.i64 a2_7)))])]
end arena_put
/-! garrison/arena.has -/
namespace arena_has
abbrev sh : List Sh := [.one (.bool)]
noncomputable abbrev R (a0_0 : List (List DV)) (a0_1 : List (List DV)) (a1 : Int) : Option (Bool × Unit) := retω cfg sh 35 [(AV.agg [(AV.d (DV.lst 8 a0_0)), (AV.d (DV.lst 1 a0_1))]), (AV.d (DV.v (Value.int IntKind.i64 a1)))]
end arena_has
/-! garrison/handle.Next -/
namespace handle_Next
abbrev sh : List Sh := [.one (.int .i64)]
noncomputable abbrev R (a0 : Int) : Option (Int × Unit) := retω cfg sh 36 [(AV.d (DV.v (Value.int IntKind.i64 a0)))]
end handle_Next
/-! garrison/arena.isFree -/
namespace arena_isFree
abbrev sh : List Sh := [.one (.bool)]
noncomputable abbrev R (a0_0 : List (List DV)) (a0_1 : List (List DV)) (a1 : Int) : Option (Bool × Unit) := retω cfg sh 32 [(AV.agg [(AV.d (DV.lst 8 a0_0)), (AV.d (DV.lst 1 a0_1))]), (AV.d (DV.v (Value.int IntKind.i64 a1)))]
end arena_isFree
/-! garrison/garrisonref09.Is -/
namespace ref09_Is
abbrev sh : List Sh := [.one (.bool)]
noncomputable abbrev R (a0_0 : List (List DV)) (a0_1 : List (List DV)) : Option (Bool × Unit) := retω cfg sh 40 [(AV.agg [(AV.d (DV.lst 8 a0_0)), (AV.d (DV.lst 1 a0_1))])]
end ref09_Is
/-! garrison/garrisonref09.Live -/
namespace ref09_Live
abbrev sh : List Sh := [.one (.bool)]
noncomputable abbrev R (a0_0 : Int) (a0_1 : Int) (a0_2 : Int) (a0_3 : Int) (a0_4 : Int) (a0_5 : Int) (a0_6 : Int) (a0_7 : Int) : Option (Bool × Unit) := retω cfg sh 41 [(AV.agg [(AV.d (DV.v (Value.int IntKind.i64 a0_0))), (AV.d (DV.v (Value.int IntKind.i64 a0_1))), (AV.d (DV.v (Value.int IntKind.i64 a0_2))), (AV.d (DV.v (Value.int IntKind.i64 a0_3))), (AV.d (DV.v (Value.int IntKind.i64 a0_4))), (AV.d (DV.v (Value.int IntKind.i64 a0_5))), (AV.d (DV.v (Value.int IntKind.i64 a0_6))), (AV.d (DV.v (Value.int IntKind.i64 a0_7)))])]
end ref09_Live
/-! garrison/garrisonref09.list -/
namespace ref09_list
abbrev sh : List Sh := [.agg [.lst 8, .lst 1]]
noncomputable abbrev R (a0_0 : List (List DV)) (a0_1 : List (List DV)) (a1 : Int) (a2 : List (List DV)) : Option ((List (List DV) × (List (List DV) × Unit)) × Unit) := retω cfg sh 43 [(AV.agg [(AV.d (DV.lst 8 a0_0)), (AV.d (DV.lst 1 a0_1))]), (AV.d (DV.v (Value.int IntKind.i64 a1))), (AV.d (DV.lst 1 a2))]
end ref09_list
/-! garrison/garrisonref09.set -/
namespace ref09_set
abbrev sh : List Sh := [.agg [.lst 8, .lst 1]]
noncomputable abbrev R (a0_0 : List (List DV)) (a0_1 : List (List DV)) (a1 : Int) (a2_0 : Int) (a2_1 : Int) (a2_2 : Int) (a2_3 : Int) (a2_4 : Int) (a2_5 : Int) (a2_6 : Int) (a2_7 : Int) : Option ((List (List DV) × (List (List DV) × Unit)) × Unit) := retω cfg sh 42 [(AV.agg [(AV.d (DV.lst 8 a0_0)), (AV.d (DV.lst 1 a0_1))]), (AV.d (DV.v (Value.int IntKind.i64 a1))), (AV.agg [(AV.d (DV.v (Value.int IntKind.i64 a2_0))), (AV.d (DV.v (Value.int IntKind.i64 a2_1))), (AV.d (DV.v (Value.int IntKind.i64 a2_2))), (AV.d (DV.v (Value.int IntKind.i64 a2_3))), (AV.d (DV.v (Value.int IntKind.i64 a2_4))), (AV.d (DV.v (Value.int IntKind.i64 a2_5))), (AV.d (DV.v (Value.int IntKind.i64 a2_6))), (AV.d (DV.v (Value.int IntKind.i64 a2_7)))])]
end ref09_set
/-! garrison/garrisonref09.place -/
namespace ref09_place
abbrev sh : List Sh := [.one (.bool)]
noncomputable abbrev R (a0_0 : List (List DV)) (a0_1 : List (List DV)) (a1 : Int) : Option (Bool × Unit) := retω cfg sh 44 [(AV.agg [(AV.d (DV.lst 8 a0_0)), (AV.d (DV.lst 1 a0_1))]), (AV.d (DV.v (Value.int IntKind.i64 a1)))]
end ref09_place
/-! garrison/garrisonref08.Next -/
namespace ref08_Next
abbrev sh : List Sh := [.one (.int .i64)]
noncomputable abbrev R (a0 : Int) : Option (Int × Unit) := retω cfg sh 45 [(AV.d (DV.v (Value.int IntKind.i64 a0)))]
end ref08_Next
/-! garrison/garrisonref09.in -/
namespace ref09_in
abbrev sh : List Sh := [.one (.int .i64)]
noncomputable abbrev R (a0_0 : List (List DV)) (a0_1 : List (List DV)) (a1 : Int) : Option (Int × Unit) := retω cfg sh 46 [(AV.agg [(AV.d (DV.lst 8 a0_0)), (AV.d (DV.lst 1 a0_1))]), (AV.d (DV.v (Value.int IntKind.i64 a1)))]
end ref09_in
/-! garrison/arena.isThing -/
namespace arena_isThing
abbrev sh : List Sh := [.one (.bool)]
noncomputable abbrev R (a0_0 : Int) (a0_1 : Int) (a0_2 : Int) (a0_3 : Int) (a0_4 : Int) (a0_5 : Int) (a0_6 : Int) (a0_7 : Int) : Option (Bool × Unit) := retω cfg sh 30 [(AV.agg [(AV.d (DV.v (Value.int IntKind.i64 a0_0))), (AV.d (DV.v (Value.int IntKind.i64 a0_1))), (AV.d (DV.v (Value.int IntKind.i64 a0_2))), (AV.d (DV.v (Value.int IntKind.i64 a0_3))), (AV.d (DV.v (Value.int IntKind.i64 a0_4))), (AV.d (DV.v (Value.int IntKind.i64 a0_5))), (AV.d (DV.v (Value.int IntKind.i64 a0_6))), (AV.d (DV.v (Value.int IntKind.i64 a0_7)))])]
end arena_isThing
/-! garrison/handle.isGen -/
namespace handle_isGen
abbrev sh : List Sh := [.one (.bool)]
noncomputable abbrev R (a0 : Int) : Option (Bool × Unit) := retω cfg sh 52 [(AV.d (DV.v (Value.int IntKind.i64 a0)))]
end handle_isGen
/-! slices.ContainsFunc[[][]int,[]int] -/
namespace slices_ContainsFunc_int_int__arena_isFree_1
abbrev sh : List Sh := [.one (.bool)]
noncomputable abbrev R (a0 : List (List DV)) (b0 : Int) : Option (Bool × Unit) := ownT cfg sh 47 48 (DV.lst 1 a0) (VBlk.cell 1 0 [(AV.d (DV.v (Value.int IntKind.i64 b0)))])
end slices_ContainsFunc_int_int__arena_isFree_1
/-! slices.IndexFunc[[][]int,[]int] -/
namespace slices_IndexFunc_int_int__arena_isFree_1
abbrev sh : List Sh := [.one (.int .i64)]
noncomputable abbrev R (a0 : List (List DV)) (b0 : Int) : Option (Int × Unit) := ownT cfg sh 53 48 (DV.lst 1 a0) (VBlk.cell 1 0 [(AV.d (DV.v (Value.int IntKind.i64 b0)))])
end slices_IndexFunc_int_int__arena_isFree_1
/-! slices.Contains[[]int,int] -/
namespace slices_Contains_int_int
abbrev sh : List Sh := [.one (.bool)]
noncomputable abbrev R (a0 : List (List DV)) (a1 : Int) : Option (Bool × Unit) := retω cfg sh 49 [(AV.d (DV.lst 1 a0)), (AV.d (DV.v (Value.int IntKind.i64 a1)))]
end slices_Contains_int_int
/-! slices.Index[[]int,int] -/
namespace slices_Index_int_int
abbrev sh : List Sh := [.one (.int .i64)]
noncomputable abbrev R (a0 : List (List DV)) (a1 : Int) : Option (Int × Unit) := retω cfg sh 54 [(AV.d (DV.lst 1 a0)), (AV.d (DV.v (Value.int IntKind.i64 a1)))]
end slices_Index_int_int
/-! garrison/garrisonlaw09.ArenaSteps -/
namespace law09_ArenaSteps
def lv : Live := []
theorem start (a0_0 : List (List DV)) (a0_1 : List (List DV)) (a1_0 : Int) (a1_1 : Int) (a1_2 : Int) (a1_3 : Int) (a1_4 : Int) (a1_5 : Int) (a1_6 : Int) (a1_7 : Int) (a1_8 : Int) (a1_9 : Int) (a1_10 : Int) (a1_11 : Int) (c : (Bool × Unit)) (h :
    optAll (law09_small.R a0_0 a0_1) fun (c0 : (Bool × Unit)) =>
    cond ((!(c0).1)) (
      optAll (law09_live.R) fun (c1 : (Bool × Unit)) =>
      c = ((c1).1, ())) (
      optAll (law09_own.R a0_0 a0_1) fun (c2 : ((List (List DV) × (List (List DV) × Unit)) × Unit)) =>
      optAll (law09_does.R ((c2).1).1 (((c2).1).2).1 a1_0 a1_1 a1_2 a1_3 a1_4 a1_5 a1_6 a1_7 a1_8 a1_9 a1_10 a1_11) fun (c3 : ((List (List DV) × (List (List DV) × Unit)) × (Int × (Int × Unit)))) =>
      optAll (law09_model.R a0_0 a0_1 a1_0 a1_1 a1_2 a1_3 a1_4 a1_5 a1_6 a1_7 a1_8 a1_9 a1_10 a1_11) fun (c4 : ((List (List DV) × (List (List DV) × Unit)) × (Int × (Int × Unit)))) =>
      optAll (ref09_Same.R ((c3).1).1 (((c3).1).2).1 ((c4).1).1 (((c4).1).2).1) fun (c5 : (Bool × Unit)) =>
      cond ((c5).1) (
        cond ((((c3).2).1 == ((c4).2).1)) (
          cond (((((c3).2).2).1 == (((c4).2).2).1)) (
            optAll (ref09_Same.R ((c2).1).1 (((c2).1).2).1 a0_0 a0_1) fun (c6 : (Bool × Unit)) =>
            cond ((c6).1) (
              optAll (law09_live.R) fun (c7 : (Bool × Unit)) =>
              c = ((c7).1, ())) (
              c = (false, ()))) (
            c = (false, ()))) (
          c = (false, ()))) (
        c = (false, ())))) : R a0_0 a0_1 a1_0 a1_1 a1_2 a1_3 a1_4 a1_5 a1_6 a1_7 a1_8 a1_9 a1_10 a1_11 = some c := start_rule (n := 400) (lv := lv) (noSum_ok _) (by kernel_rfl) h
end law09_ArenaSteps
/-! garrison/garrisonlaw09.small -/
namespace law09_small
def lv : Live := [((6, 1048576), [1, 3, 4], [48]), ((10, 2097152), [1, 3, 5], [48])]
abbrev H6 (x3 : Int) (x4 : Int) (b48 : List (List DV)) (b48_1 : List (List DV)) (c : (Bool × Unit)) : Prop := HeadAns cfg 8 sh lv (bd cfg 8 [1, 1, 1, 0, 1, 0, 0]) 1048576 [.inBlock 0, .code (bd cfg 8 [1, 1, 1, 1])]
  [(AV.ptr 48 0 0 0), (AV.d (DV.v (Value.int IntKind.i64 x3))), (AV.d (DV.v (Value.int IntKind.i64 x4)))] [(Option.some (VBlk.cell 2 0 [(AV.d (DV.lst 8 b48)), (AV.d (DV.lst 1 b48_1))]))] 1048576 c
abbrev H10 (x3 : Int) (x5 : Int) (b48 : List (List DV)) (b48_1 : List (List DV)) (c : (Bool × Unit)) : Prop := HeadAns cfg 8 sh lv (bd cfg 8 [1, 1, 1, 1, 0, 1, 0, 0]) 2097152 [.inBlock 2, .code (bd cfg 8 [1, 1, 1, 1, 1])]
  [(AV.ptr 48 0 0 0), (AV.d (DV.v (Value.int IntKind.i64 x3))), (AV.d (DV.v (Value.int IntKind.i64 x5)))] [(Option.some (VBlk.cell 2 0 [(AV.d (DV.lst 8 b48)), (AV.d (DV.lst 1 b48_1))]))] 2097152 c
theorem start (a0_0 : List (List DV)) (a0_1 : List (List DV)) (c : (Bool × Unit)) (h :
    cond (decide (((((a0_0).length : Nat) : Int) > (70 : Int)))) (
      c = (false, ())) (
      cond (decide (((((a0_1).length : Nat) : Int) > (70 : Int)))) (
        c = (false, ())) (
        H6 (0 : Int) (0 : Int) a0_0 a0_1 c))) : R a0_0 a0_1 = some c := start_rule (n := 400) (lv := lv) (noSum_ok _) (by kernel_rfl) h
theorem H6_step (x3 : Int) (x4 : Int) (b48 : List (List DV)) (b48_1 : List (List DV)) (c : (Bool × Unit)) (h :
    cond (decide ((x4 < (((b48_1).length : Nat) : Int)))) (
      needs ((0 : Int) ≤ x4) (
      optAll ((b48_1)[(Int.toNat x4)]?) fun (r0 : List DV) =>
      optAll ((dLst 1 r0 0)) fun (l1 : List (List DV)) =>
      H6 (IntKind.i64.wrap (x3 + (if ((1000 : Int) < (((l1).length : Nat) : Int)) then (1000 : Int) else (((l1).length : Nat) : Int)))) (IntKind.i64.wrap (x4 + (1 : Int))) b48 b48_1 c)) (
      H10 x3 (0 : Int) b48 b48_1 c)) : H6 x3 x4 b48 b48_1 c := head_rule (n := 400) (noSum_ok _) (by kernel_rfl) h
theorem H10_step (x3 : Int) (x5 : Int) (b48 : List (List DV)) (b48_1 : List (List DV)) (c : (Bool × Unit)) (h :
    cond (decide ((x5 < (((b48).length : Nat) : Int)))) (
      needs ((0 : Int) ≤ x5) (
      optAll ((b48)[(Int.toNat x5)]?) fun (r2 : List DV) =>
      optAll ((dInt IntKind.i64 r2 2)) fun (z3 : Int) =>
      cond (decide ((z3 > (1000000000 : Int)))) (
        c = (false, ())) (
        H10 x3 (IntKind.i64.wrap (x5 + (1 : Int))) b48 b48_1 c))) (
      c = (decide ((x3 ≤ (300 : Int))), ()))) : H10 x3 x5 b48 b48_1 c := head_rule (n := 400) (noSum_ok _) (by kernel_rfl) h
end law09_small
/-! garrison/garrisonlaw09.live -/
namespace law09_live
theorem closed : R = some (true, ()) := ret_closed (n := 4000) (v := .d (.v (.bool true))) (by kernel_rfl) (by kernel_rfl)
end law09_live
/-! garrison/garrisonlaw09.own -/
namespace law09_own
def lv : Live := [((4, 1048576), [1, 2, 3, 4], [30, 46, 47, 48, 142, 62, 158])]
abbrev H4 (x4 : Int) (b30 : List (List DV)) (b30_1 : List (List DV)) (b47 : List (List DV)) (b48 : List (List DV)) (b62 : List (List DV)) (b158 : List (List DV)) (c : ((List (List DV) × (List (List DV) × Unit)) × Unit)) : Prop := HeadAns cfg 10 sh lv (bd cfg 10 [1, 1, 0, 1, 0, 0]) 1048576 [.inBlock 0, .code (bd cfg 10 [1, 1, 1])]
  [(AV.ptr 30 0 0 0), (AV.ptr 46 0 0 0), (AV.ptr 142 0 0 0), (AV.d (DV.v (Value.int IntKind.i64 x4)))] [(Option.some (VBlk.cell 2 0 [(AV.d (DV.lst 8 b30)), (AV.d (DV.lst 1 b30_1))])), (Option.some (VBlk.cell 2 0 [(AV.ref 47 0 0 (List.length b47)), (AV.ref 48 0 0 (List.length b48))])), (Option.some (VBlk.drow 8 0 b47)), (Option.some (VBlk.drow 1 0 b48)), (Option.some (VBlk.cell 2 0 [(AV.ref 62 0 0 (List.length b62)), (AV.ref 158 0 0 (List.length b158))])), (Option.some (VBlk.drow 8 0 b62)), (Option.some (VBlk.drow 1 0 b158))] 1048576 c
theorem start (a0_0 : List (List DV)) (a0_1 : List (List DV)) (c : ((List (List DV) × (List (List DV) × Unit)) × Unit)) (h :
    needs ((((a0_0).length * 64) ≤ 140737488355328) ∧ (((a0_0).length * 8) ≤ 140737488355328)) (
    H4 (0 : Int) a0_0 a0_1 [] [] a0_0 [] c)) : R a0_0 a0_1 = some c := start_rule (n := 400) (lv := lv) (noSum_ok _) (by kernel_rfl) h
theorem H4_step (x4 : Int) (b30 : List (List DV)) (b30_1 : List (List DV)) (b47 : List (List DV)) (b48 : List (List DV)) (b62 : List (List DV)) (b158 : List (List DV)) (c : ((List (List DV) × (List (List DV) × Unit)) × Unit)) (h :
    cond (decide ((x4 < (((b30_1).length : Nat) : Int)))) (
      needs ((0 : Int) ≤ x4) (
      optAll ((b30_1)[(Int.toNat x4)]?) fun (r0 : List DV) =>
      optAll ((dLst 1 r0 0)) fun (l1 : List (List DV)) =>
      needs ((((l1).length * 8) ≤ 140737488355328) ∧ (((l1).length * 1) ≤ 140737488355328)) (
      needs ((b158).length = (b158).length) (
      needs (((((b158 ++ (([[(DV.lst 1 ((l1).take ((l1).length)))]]).take (1)))).length * 24) ≤ 140737488355328) ∧ ((((b158 ++ (([[(DV.lst 1 ((l1).take ((l1).length)))]]).take (1)))).length * 1) ≤ 140737488355328)) (
      H4 (IntKind.i64.wrap (x4 + (1 : Int))) b30 b30_1 b47 b48 b62 (b158 ++ (([[(DV.lst 1 ((l1).take ((l1).length)))]]).take (1))) c))))) (
      c = ((((b62).take ((b62).length)), (((b158).take ((b158).length)), ())), ()))) : H4 x4 b30 b30_1 b47 b48 b62 b158 c := head_rule (n := 400) (noSum_ok _) (by kernel_rfl) h
end law09_own
/-! garrison/garrisonlaw09.does -/
namespace law09_does
def lv : Live := []
theorem start (a0_0 : List (List DV)) (a0_1 : List (List DV)) (a1_0 : Int) (a1_1 : Int) (a1_2 : Int) (a1_3 : Int) (a1_4 : Int) (a1_5 : Int) (a1_6 : Int) (a1_7 : Int) (a1_8 : Int) (a1_9 : Int) (a1_10 : Int) (a1_11 : Int) (c : ((List (List DV) × (List (List DV) × Unit)) × (Int × (Int × Unit)))) (h :
    cond ((a1_0 == (0 : Int))) (
      optAll (arena_Take.R a0_0 a0_1 a1_1 a1_4 a1_5 a1_6 a1_7 a1_8 a1_9 a1_10 a1_11) fun (c0 : ((List (List DV) × (List (List DV) × Unit)) × (Int × (Int × Unit)))) =>
      optAll (law09_num.R (((c0).2).2).1) fun (c1 : (Int × Unit)) =>
      c = ((((c0).1).1, ((((c0).1).2).1, ())), (((c0).2).1, ((c1).1, ())))) (
      cond ((a1_0 == (1 : Int))) (
        optAll (arena_Drop.R a0_0 a0_1 a1_2) fun (c2 : ((List (List DV) × (List (List DV) × Unit)) × (Int × Unit))) =>
        optAll (law09_num.R ((c2).2).1) fun (c3 : (Int × Unit)) =>
        c = ((((c2).1).1, ((((c2).1).2).1, ())), ((0 : Int), ((c3).1, ())))) (
        cond ((a1_0 == (2 : Int))) (
          optAll (arena_Give.R a0_0 a0_1 a1_1 a1_2) fun (c4 : ((List (List DV) × (List (List DV) × Unit)) × (Int × Unit))) =>
          optAll (law09_num.R ((c4).2).1) fun (c5 : (Int × Unit)) =>
          c = ((((c4).1).1, ((((c4).1).2).1, ())), ((0 : Int), ((c5).1, ())))) (
          optAll (arena_Refer.R a0_0 a0_1 a1_2 a1_3) fun (c6 : ((List (List DV) × (List (List DV) × Unit)) × (Int × Unit))) =>
          optAll (law09_num.R ((c6).2).1) fun (c7 : (Int × Unit)) =>
          c = ((((c6).1).1, ((((c6).1).2).1, ())), ((0 : Int), ((c7).1, ()))))))) : R a0_0 a0_1 a1_0 a1_1 a1_2 a1_3 a1_4 a1_5 a1_6 a1_7 a1_8 a1_9 a1_10 a1_11 = some c := start_rule (n := 400) (lv := lv) (noSum_ok _) (by kernel_rfl) h
end law09_does
/-! garrison/garrisonlaw09.model -/
namespace law09_model
def lv : Live := []
theorem start (a0_0 : List (List DV)) (a0_1 : List (List DV)) (a1_0 : Int) (a1_1 : Int) (a1_2 : Int) (a1_3 : Int) (a1_4 : Int) (a1_5 : Int) (a1_6 : Int) (a1_7 : Int) (a1_8 : Int) (a1_9 : Int) (a1_10 : Int) (a1_11 : Int) (c : ((List (List DV) × (List (List DV) × Unit)) × (Int × (Int × Unit)))) (h :
    cond ((a1_0 == (0 : Int))) (
      optAll (ref09_Take.R a0_0 a0_1 a1_1 a1_4 a1_5 a1_6 a1_7 a1_8 a1_9 a1_10 a1_11) fun (c0 : ((List (List DV) × (List (List DV) × Unit)) × (Int × (Int × Unit)))) =>
      c = ((((c0).1).1, ((((c0).1).2).1, ())), (((c0).2).1, ((((c0).2).2).1, ())))) (
      cond ((a1_0 == (1 : Int))) (
        optAll (ref09_Drop.R a0_0 a0_1 a1_2) fun (c1 : ((List (List DV) × (List (List DV) × Unit)) × (Int × Unit))) =>
        c = ((((c1).1).1, ((((c1).1).2).1, ())), ((0 : Int), (((c1).2).1, ())))) (
        cond ((a1_0 == (2 : Int))) (
          optAll (ref09_Give.R a0_0 a0_1 a1_1 a1_2) fun (c2 : ((List (List DV) × (List (List DV) × Unit)) × (Int × Unit))) =>
          c = ((((c2).1).1, ((((c2).1).2).1, ())), ((0 : Int), (((c2).2).1, ())))) (
          optAll (ref09_Refer.R a0_0 a0_1 a1_2 a1_3) fun (c3 : ((List (List DV) × (List (List DV) × Unit)) × (Int × Unit))) =>
          c = ((((c3).1).1, ((((c3).1).2).1, ())), ((0 : Int), (((c3).2).1, ()))))))) : R a0_0 a0_1 a1_0 a1_1 a1_2 a1_3 a1_4 a1_5 a1_6 a1_7 a1_8 a1_9 a1_10 a1_11 = some c := start_rule (n := 400) (lv := lv) (noSum_ok _) (by kernel_rfl) h
end law09_model
/-! garrison/garrisonref09.Same -/
namespace ref09_Same
def lv : Live := [((5, 1048576), [2, 3, 5], [60, 76]), ((10, 2097152), [2, 3, 6], [60, 76])]
abbrev H5 (x5 : Int) (b60 : List (List DV)) (b60_1 : List (List DV)) (b76 : List (List DV)) (b76_1 : List (List DV)) (c : (Bool × Unit)) : Prop := HeadAns cfg 13 sh lv (bd cfg 13 [1, 1, 0, 1, 0, 0]) 1048576 [.inBlock 0, .code (bd cfg 13 [1, 1, 1])]
  [(AV.ptr 60 0 0 0), (AV.ptr 76 0 0 0), (AV.d (DV.v (Value.int IntKind.i64 x5)))] [(Option.some (VBlk.cell 2 0 [(AV.d (DV.lst 8 b60)), (AV.d (DV.lst 1 b60_1))])), (Option.some (VBlk.cell 2 0 [(AV.d (DV.lst 8 b76)), (AV.d (DV.lst 1 b76_1))]))] 1048576 c
abbrev H10 (x6 : Int) (b60 : List (List DV)) (b60_1 : List (List DV)) (b76 : List (List DV)) (b76_1 : List (List DV)) (c : (Bool × Unit)) : Prop := HeadAns cfg 13 sh lv (bd cfg 13 [1, 1, 1, 0, 1, 0, 0]) 2097152 [.inBlock 2, .code (bd cfg 13 [1, 1, 1, 1])]
  [(AV.ptr 60 0 0 0), (AV.ptr 76 0 0 0), (AV.d (DV.v (Value.int IntKind.i64 x6)))] [(Option.some (VBlk.cell 2 0 [(AV.d (DV.lst 8 b60)), (AV.d (DV.lst 1 b60_1))])), (Option.some (VBlk.cell 2 0 [(AV.d (DV.lst 8 b76)), (AV.d (DV.lst 1 b76_1))]))] 2097152 c
theorem start (a0_0 : List (List DV)) (a0_1 : List (List DV)) (a1_0 : List (List DV)) (a1_1 : List (List DV)) (c : (Bool × Unit)) (h :
    cond (((((a0_0).length : Nat) : Int) != (((a1_0).length : Nat) : Int))) (
      c = (false, ())) (
      cond (((((a0_1).length : Nat) : Int) != (((a1_1).length : Nat) : Int))) (
        c = (false, ())) (
        H5 (0 : Int) a0_0 a0_1 a1_0 a1_1 c))) : R a0_0 a0_1 a1_0 a1_1 = some c := start_rule (n := 400) (lv := lv) (noSum_ok _) (by kernel_rfl) h
theorem H5_step (x5 : Int) (b60 : List (List DV)) (b60_1 : List (List DV)) (b76 : List (List DV)) (b76_1 : List (List DV)) (c : (Bool × Unit)) (h :
    cond (decide ((x5 < (((b60).length : Nat) : Int)))) (
      needs ((0 : Int) ≤ x5) (
      optAll ((b60)[(Int.toNat x5)]?) fun (r0 : List DV) =>
      optAll ((dInt IntKind.i64 r0 0)) fun (z1 : Int) =>
      optAll ((dInt IntKind.i64 r0 1)) fun (z2 : Int) =>
      optAll ((dInt IntKind.i64 r0 2)) fun (z3 : Int) =>
      optAll ((dInt IntKind.i64 r0 3)) fun (z4 : Int) =>
      optAll ((dInt IntKind.i64 r0 4)) fun (z5 : Int) =>
      optAll ((dInt IntKind.i64 r0 5)) fun (z6 : Int) =>
      optAll ((dInt IntKind.i64 r0 6)) fun (z7 : Int) =>
      optAll ((dInt IntKind.i64 r0 7)) fun (z8 : Int) =>
      needs ((0 : Int) ≤ x5) (
      optAll ((b76)[(Int.toNat x5)]?) fun (r9 : List DV) =>
      optAll ((dInt IntKind.i64 r9 0)) fun (z10 : Int) =>
      optAll ((dInt IntKind.i64 r9 1)) fun (z11 : Int) =>
      optAll ((dInt IntKind.i64 r9 2)) fun (z12 : Int) =>
      optAll ((dInt IntKind.i64 r9 3)) fun (z13 : Int) =>
      optAll ((dInt IntKind.i64 r9 4)) fun (z14 : Int) =>
      optAll ((dInt IntKind.i64 r9 5)) fun (z15 : Int) =>
      optAll ((dInt IntKind.i64 r9 6)) fun (z16 : Int) =>
      optAll ((dInt IntKind.i64 r9 7)) fun (z17 : Int) =>
      cond ((!((z1 == z10) && ((z2 == z11) && ((z3 == z12) && ((z4 == z13) && ((z5 == z14) && ((z6 == z15) && ((z7 == z16) && ((z8 == z17) && true)))))))))) (
        c = (false, ())) (
        H5 (IntKind.i64.wrap (x5 + (1 : Int))) b60 b60_1 b76 b76_1 c)))) (
      H10 (0 : Int) b60 b60_1 b76 b76_1 c)) : H5 x5 b60 b60_1 b76 b76_1 c := head_rule (n := 400) (noSum_ok _) (by kernel_rfl) h
theorem H10_step (x6 : Int) (b60 : List (List DV)) (b60_1 : List (List DV)) (b76 : List (List DV)) (b76_1 : List (List DV)) (c : (Bool × Unit)) (h :
    cond (decide ((x6 < (((b60_1).length : Nat) : Int)))) (
      needs ((0 : Int) ≤ x6) (
      optAll ((b60_1)[(Int.toNat x6)]?) fun (r18 : List DV) =>
      optAll ((dLst 1 r18 0)) fun (l19 : List (List DV)) =>
      needs ((0 : Int) ≤ x6) (
      optAll ((b76_1)[(Int.toNat x6)]?) fun (r20 : List DV) =>
      optAll ((dLst 1 r20 0)) fun (l21 : List (List DV)) =>
      optAll (ref07_Ints.R l19 l21) fun (c22 : (Bool × Unit)) =>
      cond ((!(c22).1)) (
        c = (false, ())) (
        H10 (IntKind.i64.wrap (x6 + (1 : Int))) b60 b60_1 b76 b76_1 c)))) (
      c = (true, ()))) : H10 x6 b60 b60_1 b76 b76_1 c := head_rule (n := 400) (noSum_ok _) (by kernel_rfl) h
end ref09_Same
/-! garrison/arena.Take -/
namespace arena_Take
def lv : Live := []
theorem start (a0_0 : List (List DV)) (a0_1 : List (List DV)) (a1 : Int) (a2_0 : Int) (a2_1 : Int) (a2_2 : Int) (a2_3 : Int) (a2_4 : Int) (a2_5 : Int) (a2_6 : Int) (a2_7 : Int) (c : ((List (List DV) × (List (List DV) × Unit)) × (Int × (Int × Unit)))) (h :
    cond (decide ((a1 < (0 : Int)))) (
      c = ((a0_0, (a0_1, ())), ((0 : Int), ((2 : Int), ())))) (
      cond (decide ((a1 ≥ (((a0_1).length : Nat) : Int)))) (
        c = ((a0_0, (a0_1, ())), ((0 : Int), ((2 : Int), ())))) (
        optAll (arena_isLive.R a2_0 a2_1 a2_2 a2_3 a2_4 a2_5 a2_6 a2_7) fun (c0 : (Bool × Unit)) =>
        cond ((!(c0).1)) (
          c = ((a0_0, (a0_1, ())), ((0 : Int), ((2 : Int), ())))) (
          optAll (arena_Check.R a0_0 a0_1) fun (c1 : (Int × Unit)) =>
          cond (((c1).1 != (0 : Int))) (
            c = ((a0_0, (a0_1, ())), ((0 : Int), ((2 : Int), ())))) (
            needs ((0 : Int) ≤ a1) (
            optAll ((a0_1)[(Int.toNat a1)]?) fun (r2 : List DV) =>
            optAll ((dLst 1 r2 0)) fun (l3 : List (List DV)) =>
            cond (((((l3).length : Nat) : Int) == (0 : Int))) (
              c = ((a0_0, (a0_1, ())), ((0 : Int), ((5 : Int), ())))) (
              optAll ((l3)[0]?) fun (r4 : List DV) =>
              optAll ((dInt IntKind.i64 r4 0)) fun (z5 : Int) =>
              needs ((0 : Int) ≤ z5) (
              optAll ((a0_0)[(Int.toNat z5)]?) fun (r6 : List DV) =>
              optAll ((dInt IntKind.i64 r6 1)) fun (z7 : Int) =>
              needs (((0 : Int) ≤ (1 : Int)) ∧ (((1 : Int) ≤ (((l3).length : Nat) : Int)) ∧ ((((l3).length : Nat) : Int) ≤ (((l3).length : Nat) : Int)))) (
              optAll (arena_list.R a0_0 a0_1 a1 ((((l3).take ((Int.toNat (((l3).length : Nat) : Int))))).drop (1))) fun (c8 : ((List (List DV) × (List (List DV) × Unit)) × Unit)) =>
              optAll ((l3)[0]?) fun (r9 : List DV) =>
              optAll ((dInt IntKind.i64 r9 0)) fun (z10 : Int) =>
              optAll (arena_put.R ((c8).1).1 (((c8).1).2).1 z10 a2_0 z7 (1 : Int) a2_3 a2_4 a2_5 a2_6 a2_7) fun (c11 : ((List (List DV) × (List (List DV) × Unit)) × Unit)) =>
              optAll ((l3)[0]?) fun (r12 : List DV) =>
              optAll ((dInt IntKind.i64 r12 0)) fun (z13 : Int) =>
              c = ((((c11).1).1, ((((c11).1).2).1, ())), (z13, ((0 : Int), ())))))))))))) : R a0_0 a0_1 a1 a2_0 a2_1 a2_2 a2_3 a2_4 a2_5 a2_6 a2_7 = some c := start_rule (n := 400) (lv := lv) (noSum_ok _) (by kernel_rfl) h
end arena_Take
/-! garrison/garrisonlaw09.num -/
namespace law09_num
def lv : Live := []
theorem start (a0 : Int) (c : (Int × Unit)) (h :
    c = (a0, ())) : R a0 = some c := start_rule (n := 400) (lv := lv) (noSum_ok _) (by kernel_rfl) h
end law09_num
/-! garrison/arena.Drop -/
namespace arena_Drop
def lv : Live := []
theorem start (a0_0 : List (List DV)) (a0_1 : List (List DV)) (a1 : Int) (c : ((List (List DV) × (List (List DV) × Unit)) × (Int × Unit))) (h :
    optAll (arena_has.R a0_0 a0_1 a1) fun (c0 : (Bool × Unit)) =>
    cond ((!(c0).1)) (
      c = ((a0_0, (a0_1, ())), ((2 : Int), ()))) (
      needs ((0 : Int) ≤ a1) (
      optAll ((a0_0)[(Int.toNat a1)]?) fun (r1 : List DV) =>
      optAll ((dInt IntKind.i64 r1 0)) fun (z2 : Int) =>
      optAll ((dInt IntKind.i64 r1 1)) fun (z3 : Int) =>
      optAll ((dInt IntKind.i64 r1 2)) fun (z4 : Int) =>
      optAll ((dInt IntKind.i64 r1 3)) fun (z5 : Int) =>
      optAll ((dInt IntKind.i64 r1 4)) fun (z6 : Int) =>
      optAll ((dInt IntKind.i64 r1 5)) fun (z7 : Int) =>
      optAll ((dInt IntKind.i64 r1 6)) fun (z8 : Int) =>
      optAll ((dInt IntKind.i64 r1 7)) fun (z9 : Int) =>
      optAll (arena_isLive.R z2 z3 z4 z5 z6 z7 z8 z9) fun (c10 : (Bool × Unit)) =>
      cond ((!(c10).1)) (
        c = ((a0_0, (a0_1, ())), ((2 : Int), ()))) (
        needs ((0 : Int) ≤ a1) (
        optAll ((a0_0)[(Int.toNat a1)]?) fun (r11 : List DV) =>
        optAll ((dInt IntKind.i64 r11 2)) fun (z12 : Int) =>
        cond ((z12 != (0 : Int))) (
          c = ((a0_0, (a0_1, ())), ((2 : Int), ()))) (
          needs ((0 : Int) ≤ a1) (
          optAll ((a0_0)[(Int.toNat a1)]?) fun (r13 : List DV) =>
          optAll ((dInt IntKind.i64 r13 1)) fun (z14 : Int) =>
          optAll (handle_Next.R z14) fun (c15 : (Int × Unit)) =>
          optAll (arena_put.R a0_0 a0_1 a1 (0 : Int) (c15).1 (0 : Int) (0 : Int) (0 : Int) (0 : Int) (-1 : Int) (0 : Int)) fun (c16 : ((List (List DV) × (List (List DV) × Unit)) × Unit)) =>
          c = ((((c16).1).1, ((((c16).1).2).1, ())), ((0 : Int), ()))))))))) : R a0_0 a0_1 a1 = some c := start_rule (n := 400) (lv := lv) (noSum_ok _) (by kernel_rfl) h
end arena_Drop
/-! garrison/arena.Give -/
namespace arena_Give
def lv : Live := []
theorem start (a0_0 : List (List DV)) (a0_1 : List (List DV)) (a1 : Int) (a2 : Int) (c : ((List (List DV) × (List (List DV) × Unit)) × (Int × Unit))) (h :
    cond (decide ((a1 < (0 : Int)))) (
      c = ((a0_0, (a0_1, ())), ((2 : Int), ()))) (
      cond (decide ((a1 ≥ (((a0_1).length : Nat) : Int)))) (
        c = ((a0_0, (a0_1, ())), ((2 : Int), ()))) (
        optAll (arena_has.R a0_0 a0_1 a2) fun (c0 : (Bool × Unit)) =>
        cond ((!(c0).1)) (
          c = ((a0_0, (a0_1, ())), ((2 : Int), ()))) (
          needs ((0 : Int) ≤ a2) (
          optAll ((a0_0)[(Int.toNat a2)]?) fun (r1 : List DV) =>
          optAll ((dInt IntKind.i64 r1 0)) fun (z2 : Int) =>
          optAll ((dInt IntKind.i64 r1 1)) fun (z3 : Int) =>
          optAll ((dInt IntKind.i64 r1 2)) fun (z4 : Int) =>
          optAll ((dInt IntKind.i64 r1 3)) fun (z5 : Int) =>
          optAll ((dInt IntKind.i64 r1 4)) fun (z6 : Int) =>
          optAll ((dInt IntKind.i64 r1 5)) fun (z7 : Int) =>
          optAll ((dInt IntKind.i64 r1 6)) fun (z8 : Int) =>
          optAll ((dInt IntKind.i64 r1 7)) fun (z9 : Int) =>
          optAll (arena_isLive.R z2 z3 z4 z5 z6 z7 z8 z9) fun (c10 : (Bool × Unit)) =>
          cond ((c10).1) (
            c = ((a0_0, (a0_1, ())), ((2 : Int), ()))) (
            optAll (arena_isFree.R a0_0 a0_1 a2) fun (c11 : (Bool × Unit)) =>
            cond ((c11).1) (
              c = ((a0_0, (a0_1, ())), ((2 : Int), ()))) (
              needs ((0 : Int) ≤ a2) (
              optAll ((a0_0)[(Int.toNat a2)]?) fun (r12 : List DV) =>
              optAll ((dInt IntKind.i64 r12 1)) fun (z13 : Int) =>
              cond ((z13 == (-1 : Int))) (
                c = ((a0_0, (a0_1, ())), ((0 : Int), ()))) (
                needs ((0 : Int) ≤ a1) (
                optAll ((a0_1)[(Int.toNat a1)]?) fun (r14 : List DV) =>
                optAll ((dLst 1 r14 0)) fun (l15 : List (List DV)) =>
                needs ((((l15).length : Nat) : Int) = (((l15).length : Nat) : Int)) (
                needs (((0 : Int) ≤ (0 : Int)) ∧ (((0 : Int) ≤ (((l15).length : Nat) : Int)) ∧ ((((l15).length : Nat) : Int) ≤ (((l15).length : Nat) : Int)))) (
                needs (((((((l15).take ((Int.toNat (((l15).length : Nat) : Int)))) ++ (([[(DV.v (Value.int IntKind.i64 a2))]]).take (1)))).length * 8) ≤ 140737488355328) ∧ ((((((l15).take ((Int.toNat (((l15).length : Nat) : Int)))) ++ (([[(DV.v (Value.int IntKind.i64 a2))]]).take (1)))).length * 1) ≤ 140737488355328)) (
                optAll (arena_list.R a0_0 a0_1 a1 (((((l15).take ((Int.toNat (((l15).length : Nat) : Int)))) ++ (([[(DV.v (Value.int IntKind.i64 a2))]]).take (1)))).take (((((l15).take ((Int.toNat (((l15).length : Nat) : Int)))) ++ (([[(DV.v (Value.int IntKind.i64 a2))]]).take (1)))).length))) fun (c16 : ((List (List DV) × (List (List DV) × Unit)) × Unit)) =>
                c = ((((c16).1).1, ((((c16).1).2).1, ())), ((0 : Int), ()))))))))))))))) : R a0_0 a0_1 a1 a2 = some c := start_rule (n := 400) (lv := lv) (noSum_ok _) (by kernel_rfl) h
end arena_Give
/-! garrison/arena.Refer -/
namespace arena_Refer
def lv : Live := []
theorem start (a0_0 : List (List DV)) (a0_1 : List (List DV)) (a1 : Int) (a2 : Int) (c : ((List (List DV) × (List (List DV) × Unit)) × (Int × Unit))) (h :
    optAll (arena_has.R a0_0 a0_1 a1) fun (c0 : (Bool × Unit)) =>
    cond ((!(c0).1)) (
      c = ((a0_0, (a0_1, ())), ((2 : Int), ()))) (
      needs ((0 : Int) ≤ a1) (
      optAll ((a0_0)[(Int.toNat a1)]?) fun (r1 : List DV) =>
      optAll ((dInt IntKind.i64 r1 0)) fun (z2 : Int) =>
      optAll ((dInt IntKind.i64 r1 1)) fun (z3 : Int) =>
      optAll ((dInt IntKind.i64 r1 2)) fun (z4 : Int) =>
      optAll ((dInt IntKind.i64 r1 3)) fun (z5 : Int) =>
      optAll ((dInt IntKind.i64 r1 4)) fun (z6 : Int) =>
      optAll ((dInt IntKind.i64 r1 5)) fun (z7 : Int) =>
      optAll ((dInt IntKind.i64 r1 6)) fun (z8 : Int) =>
      optAll ((dInt IntKind.i64 r1 7)) fun (z9 : Int) =>
      optAll (arena_isLive.R z2 z3 z4 z5 z6 z7 z8 z9) fun (c10 : (Bool × Unit)) =>
      cond ((!(c10).1)) (
        c = ((a0_0, (a0_1, ())), ((2 : Int), ()))) (
        cond (decide ((a2 < (-100 : Int)))) (
          c = ((a0_0, (a0_1, ())), ((2 : Int), ()))) (
          cond (decide ((a2 > (100 : Int)))) (
            c = ((a0_0, (a0_1, ())), ((2 : Int), ()))) (
            needs ((0 : Int) ≤ a1) (
            optAll ((a0_0)[(Int.toNat a1)]?) fun (r11 : List DV) =>
            optAll ((dInt IntKind.i64 r11 2)) fun (z12 : Int) =>
            cond (decide ((z12 < (IntKind.i64.wrap ((0 : Int) - a2))))) (
              c = ((a0_0, (a0_1, ())), ((2 : Int), ()))) (
              needs ((0 : Int) ≤ a1) (
              optAll ((a0_0)[(Int.toNat a1)]?) fun (r13 : List DV) =>
              optAll ((dInt IntKind.i64 r13 0)) fun (z14 : Int) =>
              optAll ((dInt IntKind.i64 r13 1)) fun (z15 : Int) =>
              optAll ((dInt IntKind.i64 r13 2)) fun (z16 : Int) =>
              optAll ((dInt IntKind.i64 r13 3)) fun (z17 : Int) =>
              optAll ((dInt IntKind.i64 r13 4)) fun (z18 : Int) =>
              optAll ((dInt IntKind.i64 r13 5)) fun (z19 : Int) =>
              optAll ((dInt IntKind.i64 r13 6)) fun (z20 : Int) =>
              optAll ((dInt IntKind.i64 r13 7)) fun (z21 : Int) =>
              optAll (arena_put.R a0_0 a0_1 a1 z14 z15 (IntKind.i64.wrap (z16 + a2)) z17 z18 z19 z20 z21) fun (c22 : ((List (List DV) × (List (List DV) × Unit)) × Unit)) =>
              c = ((((c22).1).1, ((((c22).1).2).1, ())), ((0 : Int), ()))))))))))) : R a0_0 a0_1 a1 a2 = some c := start_rule (n := 400) (lv := lv) (noSum_ok _) (by kernel_rfl) h
end arena_Refer
/-! garrison/garrisonref09.Take -/
namespace ref09_Take
def lv : Live := []
theorem start (a0_0 : List (List DV)) (a0_1 : List (List DV)) (a1 : Int) (a2_0 : Int) (a2_1 : Int) (a2_2 : Int) (a2_3 : Int) (a2_4 : Int) (a2_5 : Int) (a2_6 : Int) (a2_7 : Int) (c : ((List (List DV) × (List (List DV) × Unit)) × (Int × (Int × Unit)))) (h :
    optAll (ref09_Is.R a0_0 a0_1) fun (c0 : (Bool × Unit)) =>
    cond ((!(c0).1)) (
      c = ((a0_0, (a0_1, ())), ((0 : Int), ((2 : Int), ())))) (
      cond (decide ((a1 < (0 : Int)))) (
        c = ((a0_0, (a0_1, ())), ((0 : Int), ((2 : Int), ())))) (
        cond (decide ((a1 ≥ (((a0_1).length : Nat) : Int)))) (
          c = ((a0_0, (a0_1, ())), ((0 : Int), ((2 : Int), ())))) (
          optAll (ref09_Live.R a2_0 a2_1 a2_2 a2_3 a2_4 a2_5 a2_6 a2_7) fun (c1 : (Bool × Unit)) =>
          cond ((!(c1).1)) (
            c = ((a0_0, (a0_1, ())), ((0 : Int), ((2 : Int), ())))) (
            needs ((0 : Int) ≤ a1) (
            optAll ((a0_1)[(Int.toNat a1)]?) fun (r2 : List DV) =>
            optAll ((dLst 1 r2 0)) fun (l3 : List (List DV)) =>
            cond (((((l3).length : Nat) : Int) == (0 : Int))) (
              c = ((a0_0, (a0_1, ())), ((0 : Int), ((5 : Int), ())))) (
              needs ((0 : Int) ≤ a1) (
              optAll ((a0_1)[(Int.toNat a1)]?) fun (r4 : List DV) =>
              optAll ((dLst 1 r4 0)) fun (l5 : List (List DV)) =>
              optAll ((l5)[0]?) fun (r6 : List DV) =>
              optAll ((dInt IntKind.i64 r6 0)) fun (z7 : Int) =>
              needs ((0 : Int) ≤ z7) (
              optAll ((a0_0)[(Int.toNat z7)]?) fun (r8 : List DV) =>
              optAll ((dInt IntKind.i64 r8 1)) fun (z9 : Int) =>
              needs ((0 : Int) ≤ a1) (
              optAll ((a0_1)[(Int.toNat a1)]?) fun (r10 : List DV) =>
              optAll ((dLst 1 r10 0)) fun (l11 : List (List DV)) =>
              needs (((0 : Int) ≤ (1 : Int)) ∧ (((1 : Int) ≤ (((l11).length : Nat) : Int)) ∧ ((((l11).length : Nat) : Int) ≤ (((l11).length : Nat) : Int)))) (
              needs ((((((((l11).take ((Int.toNat (((l11).length : Nat) : Int))))).drop (1))).length * 8) ≤ 140737488355328) ∧ (((((((l11).take ((Int.toNat (((l11).length : Nat) : Int))))).drop (1))).length * 1) ≤ 140737488355328)) (
              optAll (ref09_list.R a0_0 a0_1 a1 ((((((l11).take ((Int.toNat (((l11).length : Nat) : Int))))).drop (1))).take ((((((l11).take ((Int.toNat (((l11).length : Nat) : Int))))).drop (1))).length))) fun (c12 : ((List (List DV) × (List (List DV) × Unit)) × Unit)) =>
              optAll (ref09_set.R ((c12).1).1 (((c12).1).2).1 z7 a2_0 z9 (1 : Int) a2_3 a2_4 a2_5 a2_6 a2_7) fun (c13 : ((List (List DV) × (List (List DV) × Unit)) × Unit)) =>
              c = ((((c13).1).1, ((((c13).1).2).1, ())), (z7, ((0 : Int), ()))))))))))))))) : R a0_0 a0_1 a1 a2_0 a2_1 a2_2 a2_3 a2_4 a2_5 a2_6 a2_7 = some c := start_rule (n := 400) (lv := lv) (noSum_ok _) (by kernel_rfl) h
end ref09_Take
/-! garrison/garrisonref09.Drop -/
namespace ref09_Drop
def lv : Live := []
theorem start (a0_0 : List (List DV)) (a0_1 : List (List DV)) (a1 : Int) (c : ((List (List DV) × (List (List DV) × Unit)) × (Int × Unit))) (h :
    optAll (ref09_place.R a0_0 a0_1 a1) fun (c0 : (Bool × Unit)) =>
    cond ((!(c0).1)) (
      c = ((a0_0, (a0_1, ())), ((2 : Int), ()))) (
      needs ((0 : Int) ≤ a1) (
      optAll ((a0_0)[(Int.toNat a1)]?) fun (r1 : List DV) =>
      optAll ((dInt IntKind.i64 r1 0)) fun (z2 : Int) =>
      optAll ((dInt IntKind.i64 r1 1)) fun (z3 : Int) =>
      optAll ((dInt IntKind.i64 r1 2)) fun (z4 : Int) =>
      optAll ((dInt IntKind.i64 r1 3)) fun (z5 : Int) =>
      optAll ((dInt IntKind.i64 r1 4)) fun (z6 : Int) =>
      optAll ((dInt IntKind.i64 r1 5)) fun (z7 : Int) =>
      optAll ((dInt IntKind.i64 r1 6)) fun (z8 : Int) =>
      optAll ((dInt IntKind.i64 r1 7)) fun (z9 : Int) =>
      optAll (ref09_Live.R z2 z3 z4 z5 z6 z7 z8 z9) fun (c10 : (Bool × Unit)) =>
      cond ((!(c10).1)) (
        c = ((a0_0, (a0_1, ())), ((2 : Int), ()))) (
        needs ((0 : Int) ≤ a1) (
        optAll ((a0_0)[(Int.toNat a1)]?) fun (r11 : List DV) =>
        optAll ((dInt IntKind.i64 r11 2)) fun (z12 : Int) =>
        cond ((z12 != (0 : Int))) (
          c = ((a0_0, (a0_1, ())), ((2 : Int), ()))) (
          needs ((0 : Int) ≤ a1) (
          optAll ((a0_0)[(Int.toNat a1)]?) fun (r13 : List DV) =>
          optAll ((dInt IntKind.i64 r13 1)) fun (z14 : Int) =>
          optAll (ref08_Next.R z14) fun (c15 : (Int × Unit)) =>
          optAll (ref09_set.R a0_0 a0_1 a1 (0 : Int) (c15).1 (0 : Int) (0 : Int) (0 : Int) (0 : Int) (-1 : Int) (0 : Int)) fun (c16 : ((List (List DV) × (List (List DV) × Unit)) × Unit)) =>
          c = ((((c16).1).1, ((((c16).1).2).1, ())), ((0 : Int), ()))))))))) : R a0_0 a0_1 a1 = some c := start_rule (n := 400) (lv := lv) (noSum_ok _) (by kernel_rfl) h
end ref09_Drop
/-! garrison/garrisonref09.Give -/
namespace ref09_Give
def lv : Live := []
theorem start (a0_0 : List (List DV)) (a0_1 : List (List DV)) (a1 : Int) (a2 : Int) (c : ((List (List DV) × (List (List DV) × Unit)) × (Int × Unit))) (h :
    optAll (ref09_place.R a0_0 a0_1 a2) fun (c0 : (Bool × Unit)) =>
    cond ((!(c0).1)) (
      c = ((a0_0, (a0_1, ())), ((2 : Int), ()))) (
      cond (decide ((a1 < (0 : Int)))) (
        c = ((a0_0, (a0_1, ())), ((2 : Int), ()))) (
        cond (decide ((a1 ≥ (((a0_1).length : Nat) : Int)))) (
          c = ((a0_0, (a0_1, ())), ((2 : Int), ()))) (
          needs ((0 : Int) ≤ a2) (
          optAll ((a0_0)[(Int.toNat a2)]?) fun (r1 : List DV) =>
          optAll ((dInt IntKind.i64 r1 0)) fun (z2 : Int) =>
          optAll ((dInt IntKind.i64 r1 1)) fun (z3 : Int) =>
          optAll ((dInt IntKind.i64 r1 2)) fun (z4 : Int) =>
          optAll ((dInt IntKind.i64 r1 3)) fun (z5 : Int) =>
          optAll ((dInt IntKind.i64 r1 4)) fun (z6 : Int) =>
          optAll ((dInt IntKind.i64 r1 5)) fun (z7 : Int) =>
          optAll ((dInt IntKind.i64 r1 6)) fun (z8 : Int) =>
          optAll ((dInt IntKind.i64 r1 7)) fun (z9 : Int) =>
          optAll (ref09_Live.R z2 z3 z4 z5 z6 z7 z8 z9) fun (c10 : (Bool × Unit)) =>
          cond ((c10).1) (
            c = ((a0_0, (a0_1, ())), ((2 : Int), ()))) (
            optAll (ref09_in.R a0_0 a0_1 a2) fun (c11 : (Int × Unit)) =>
            cond (decide (((c11).1 > (0 : Int)))) (
              c = ((a0_0, (a0_1, ())), ((2 : Int), ()))) (
              needs ((0 : Int) ≤ a2) (
              optAll ((a0_0)[(Int.toNat a2)]?) fun (r12 : List DV) =>
              optAll ((dInt IntKind.i64 r12 1)) fun (z13 : Int) =>
              cond ((z13 == (-1 : Int))) (
                c = ((a0_0, (a0_1, ())), ((0 : Int), ()))) (
                needs ((0 : Int) ≤ a1) (
                optAll ((a0_1)[(Int.toNat a1)]?) fun (r14 : List DV) =>
                optAll ((dLst 1 r14 0)) fun (l15 : List (List DV)) =>
                needs ((((l15).length * 8) ≤ 140737488355328) ∧ (((l15).length * 1) ≤ 140737488355328)) (
                needs ((l15).length = (l15).length) (
                needs (((((l15 ++ (([[(DV.v (Value.int IntKind.i64 a2))]]).take (1)))).length * 8) ≤ 140737488355328) ∧ ((((l15 ++ (([[(DV.v (Value.int IntKind.i64 a2))]]).take (1)))).length * 1) ≤ 140737488355328)) (
                optAll (ref09_list.R a0_0 a0_1 a1 (((l15 ++ (([[(DV.v (Value.int IntKind.i64 a2))]]).take (1)))).take (((l15 ++ (([[(DV.v (Value.int IntKind.i64 a2))]]).take (1)))).length))) fun (c16 : ((List (List DV) × (List (List DV) × Unit)) × Unit)) =>
                c = ((((c16).1).1, ((((c16).1).2).1, ())), ((0 : Int), ()))))))))))))))) : R a0_0 a0_1 a1 a2 = some c := start_rule (n := 400) (lv := lv) (noSum_ok _) (by kernel_rfl) h
end ref09_Give
/-! garrison/garrisonref09.Refer -/
namespace ref09_Refer
def lv : Live := []
theorem start (a0_0 : List (List DV)) (a0_1 : List (List DV)) (a1 : Int) (a2 : Int) (c : ((List (List DV) × (List (List DV) × Unit)) × (Int × Unit))) (h :
    optAll (ref09_place.R a0_0 a0_1 a1) fun (c0 : (Bool × Unit)) =>
    cond ((!(c0).1)) (
      c = ((a0_0, (a0_1, ())), ((2 : Int), ()))) (
      needs ((0 : Int) ≤ a1) (
      optAll ((a0_0)[(Int.toNat a1)]?) fun (r1 : List DV) =>
      optAll ((dInt IntKind.i64 r1 0)) fun (z2 : Int) =>
      optAll ((dInt IntKind.i64 r1 1)) fun (z3 : Int) =>
      optAll ((dInt IntKind.i64 r1 2)) fun (z4 : Int) =>
      optAll ((dInt IntKind.i64 r1 3)) fun (z5 : Int) =>
      optAll ((dInt IntKind.i64 r1 4)) fun (z6 : Int) =>
      optAll ((dInt IntKind.i64 r1 5)) fun (z7 : Int) =>
      optAll ((dInt IntKind.i64 r1 6)) fun (z8 : Int) =>
      optAll ((dInt IntKind.i64 r1 7)) fun (z9 : Int) =>
      optAll (ref09_Live.R z2 z3 z4 z5 z6 z7 z8 z9) fun (c10 : (Bool × Unit)) =>
      cond ((!(c10).1)) (
        c = ((a0_0, (a0_1, ())), ((2 : Int), ()))) (
        cond (decide ((a2 < (-100 : Int)))) (
          c = ((a0_0, (a0_1, ())), ((2 : Int), ()))) (
          cond (decide ((a2 > (100 : Int)))) (
            c = ((a0_0, (a0_1, ())), ((2 : Int), ()))) (
            needs ((0 : Int) ≤ a1) (
            optAll ((a0_0)[(Int.toNat a1)]?) fun (r11 : List DV) =>
            optAll ((dInt IntKind.i64 r11 2)) fun (z12 : Int) =>
            cond (decide ((z12 < (IntKind.i64.wrap ((0 : Int) - a2))))) (
              c = ((a0_0, (a0_1, ())), ((2 : Int), ()))) (
              needs ((0 : Int) ≤ a1) (
              optAll ((a0_0)[(Int.toNat a1)]?) fun (r13 : List DV) =>
              optAll ((dInt IntKind.i64 r13 0)) fun (z14 : Int) =>
              optAll ((dInt IntKind.i64 r13 1)) fun (z15 : Int) =>
              optAll ((dInt IntKind.i64 r13 2)) fun (z16 : Int) =>
              optAll ((dInt IntKind.i64 r13 3)) fun (z17 : Int) =>
              optAll ((dInt IntKind.i64 r13 4)) fun (z18 : Int) =>
              optAll ((dInt IntKind.i64 r13 5)) fun (z19 : Int) =>
              optAll ((dInt IntKind.i64 r13 6)) fun (z20 : Int) =>
              optAll ((dInt IntKind.i64 r13 7)) fun (z21 : Int) =>
              optAll (ref09_set.R a0_0 a0_1 a1 z14 z15 (IntKind.i64.wrap (z16 + a2)) z17 z18 z19 z20 z21) fun (c22 : ((List (List DV) × (List (List DV) × Unit)) × Unit)) =>
              c = ((((c22).1).1, ((((c22).1).2).1, ())), ((0 : Int), ()))))))))))) : R a0_0 a0_1 a1 a2 = some c := start_rule (n := 400) (lv := lv) (noSum_ok _) (by kernel_rfl) h
end ref09_Refer
/-! garrison/garrisonref07.Ints -/
namespace ref07_Ints
def lv : Live := [((5, 1048576), [0, 1, 5], [])]
abbrev H5 (x0 : List (List DV)) (x1 : List (List DV)) (x5 : Int) (c : (Bool × Unit)) : Prop := HeadAns cfg 29 sh lv (bd cfg 29 [1, 1, 0, 1, 0, 0]) 1048576 [.inBlock 0, .code (bd cfg 29 [1, 1, 1])]
  [(AV.d (DV.lst 1 x0)), (AV.d (DV.lst 1 x1)), (AV.d (DV.v (Value.int IntKind.i64 x5)))] [] 1048576 c
theorem start (a0 : List (List DV)) (a1 : List (List DV)) (c : (Bool × Unit)) (h :
    cond (((((a0).length : Nat) : Int) != (((a1).length : Nat) : Int))) (
      c = (false, ())) (
      H5 a0 a1 (0 : Int) c)) : R a0 a1 = some c := start_rule (n := 400) (lv := lv) (noSum_ok _) (by kernel_rfl) h
theorem H5_step (x0 : List (List DV)) (x1 : List (List DV)) (x5 : Int) (c : (Bool × Unit)) (h :
    cond (decide ((x5 < (((x0).length : Nat) : Int)))) (
      needs ((0 : Int) ≤ x5) (
      optAll ((x0)[(Int.toNat x5)]?) fun (r0 : List DV) =>
      optAll ((dInt IntKind.i64 r0 0)) fun (z1 : Int) =>
      needs ((0 : Int) ≤ x5) (
      optAll ((x1)[(Int.toNat x5)]?) fun (r2 : List DV) =>
      optAll ((dInt IntKind.i64 r2 0)) fun (z3 : Int) =>
      cond ((z1 != z3)) (
        c = (false, ())) (
        H5 x0 x1 (IntKind.i64.wrap (x5 + (1 : Int))) c)))) (
      c = (true, ()))) : H5 x0 x1 x5 c := head_rule (n := 400) (noSum_ok _) (by kernel_rfl) h
end ref07_Ints
/-! garrison/arena.isLive -/
namespace arena_isLive
def lv : Live := []
theorem start (a0_0 : Int) (a0_1 : Int) (a0_2 : Int) (a0_3 : Int) (a0_4 : Int) (a0_5 : Int) (a0_6 : Int) (a0_7 : Int) (c : (Bool × Unit)) (h :
    cond (decide ((a0_0 > (0 : Int)))) (
      c = (decide ((a0_0 ≤ (5 : Int))), ())) (
      c = (false, ()))) : R a0_0 a0_1 a0_2 a0_3 a0_4 a0_5 a0_6 a0_7 = some c := start_rule (n := 400) (lv := lv) (noSum_ok _) (by kernel_rfl) h
end arena_isLive
/-! garrison/arena.Check -/
namespace arena_Check
def lv : Live := [((6, 1048576), [1, 3, 33, 34, 35], [89]), ((13, 2097152), [1, 3, 7, 44, 45, 46], [89, 1048592]), ((16, 3145728), [1, 3, 7, 44, 45, 46, 50, 51, 52], [89, 1048592])]
abbrev H6 (x3 : Int) (x33 : List (List DV)) (x34 : Int) (x35 : Int) (b89 : List (List DV)) (b89_1 : List (List DV)) (c : (Int × Unit)) : Prop := HeadAns cfg 17 sh lv (bd cfg 17 [1, 1, 1, 0, 1, 0, 0]) 1048576 [.inBlock 0, .code (bd cfg 17 [1, 1, 1, 1])]
  [(AV.ptr 89 0 0 0), (AV.d (DV.v (Value.int IntKind.i64 x3))), (AV.d (DV.lst 8 x33)), (AV.d (DV.v (Value.int IntKind.i64 x34))), (AV.d (DV.v (Value.int IntKind.i64 x35)))] [(Option.some (VBlk.cell 2 0 [(AV.d (DV.lst 8 b89)), (AV.d (DV.lst 1 b89_1))]))] 1048576 c
abbrev H13 (x3 : Int) (x44 : List (List DV)) (x45 : Int) (x46 : Int) (b89 : List (List DV)) (b89_1 : List (List DV)) (b1048592 : List (List DV)) (c : (Int × Unit)) : Prop := HeadAns cfg 17 sh lv (bd cfg 17 [1, 1, 1, 1, 1, 0, 1, 0, 0]) 2097152 [.inBlock 2, .code (bd cfg 17 [1, 1, 1, 1, 1, 1])]
  [(AV.ptr 89 0 0 0), (AV.d (DV.v (Value.int IntKind.i64 x3))), (AV.ptr 1048592 0 0 0), (AV.d (DV.lst 1 x44)), (AV.d (DV.v (Value.int IntKind.i64 x45))), (AV.d (DV.v (Value.int IntKind.i64 x46)))] [(Option.some (VBlk.cell 2 0 [(AV.d (DV.lst 8 b89)), (AV.d (DV.lst 1 b89_1))])), (Option.some (VBlk.drow 64 0 b1048592))] 2097152 c
abbrev H16 (x3 : Int) (x44 : List (List DV)) (x45 : Int) (x46 : Int) (x50 : List (List DV)) (x51 : Int) (x52 : Int) (b89 : List (List DV)) (b89_1 : List (List DV)) (b1048592 : List (List DV)) (c : (Int × Unit)) : Prop := HeadAns cfg 17 sh lv (bd cfg 17 [1, 1, 1, 1, 1, 0, 1, 0, 0, 1, 1, 0, 0, 1, 1, 0, 0]) 3145728 [.inBlock 4, .inBlock 3, .code (bd cfg 17 [1, 1, 1, 1, 1, 0, 1, 0, 0, 1, 1, 1]), .inLoop (bd cfg 17 [1, 1, 1, 1, 1, 0, 1, 0, 0]) 2097152, .inBlock 2, .code (bd cfg 17 [1, 1, 1, 1, 1, 1])]
  [(AV.ptr 89 0 0 0), (AV.d (DV.v (Value.int IntKind.i64 x3))), (AV.ptr 1048592 0 0 0), (AV.d (DV.lst 1 x44)), (AV.d (DV.v (Value.int IntKind.i64 x45))), (AV.d (DV.v (Value.int IntKind.i64 x46))), (AV.d (DV.lst 1 x50)), (AV.d (DV.v (Value.int IntKind.i64 x51))), (AV.d (DV.v (Value.int IntKind.i64 x52)))] [(Option.some (VBlk.cell 2 0 [(AV.d (DV.lst 8 b89)), (AV.d (DV.lst 1 b89_1))])), (Option.some (VBlk.drow 64 0 b1048592))] 3145728 c
theorem start (a0_0 : List (List DV)) (a0_1 : List (List DV)) (c : (Int × Unit)) (h :
    cond (decide (((((a0_0).length : Nat) : Int) < (1 : Int)))) (
      c = ((2 : Int), ())) (
      cond (decide (((((a0_0).length : Nat) : Int) > (64 : Int)))) (
        c = ((2 : Int), ())) (
        cond (decide (((((a0_1).length : Nat) : Int) < (1 : Int)))) (
          c = ((2 : Int), ())) (
          cond (decide (((((a0_1).length : Nat) : Int) > (64 : Int)))) (
            c = ((2 : Int), ())) (
            H6 (((a0_0).length : Nat) : Int) a0_0 (((a0_0).length : Nat) : Int) (0 : Int) a0_0 a0_1 c))))) : R a0_0 a0_1 = some c := start_rule (n := 400) (lv := lv) (noSum_ok _) (by kernel_rfl) h
theorem H6_step (x3 : Int) (x33 : List (List DV)) (x34 : Int) (x35 : Int) (b89 : List (List DV)) (b89_1 : List (List DV)) (c : (Int × Unit)) (h :
    cond (decide ((x35 < x34))) (
      needs ((0 : Int) ≤ x35) (
      optAll ((x33)[(Int.toNat x35)]?) fun (r0 : List DV) =>
      optAll ((dInt IntKind.i64 r0 0)) fun (z1 : Int) =>
      optAll ((dInt IntKind.i64 r0 1)) fun (z2 : Int) =>
      optAll ((dInt IntKind.i64 r0 2)) fun (z3 : Int) =>
      optAll ((dInt IntKind.i64 r0 3)) fun (z4 : Int) =>
      optAll ((dInt IntKind.i64 r0 4)) fun (z5 : Int) =>
      optAll ((dInt IntKind.i64 r0 5)) fun (z6 : Int) =>
      optAll ((dInt IntKind.i64 r0 6)) fun (z7 : Int) =>
      optAll ((dInt IntKind.i64 r0 7)) fun (z8 : Int) =>
      optAll (arena_isThing.R z1 z2 z3 z4 z5 z6 z7 z8) fun (c9 : (Bool × Unit)) =>
      cond ((!(c9).1)) (
        c = ((2 : Int), ())) (
        H6 x3 x33 x34 (IntKind.i64.wrap (x35 + (1 : Int))) b89 b89_1 c))) (
      H13 x3 b89_1 (((b89_1).length : Nat) : Int) (0 : Int) b89 b89_1 [[(DV.v (Value.bool false)), (DV.v (Value.bool false)), (DV.v (Value.bool false)), (DV.v (Value.bool false)), (DV.v (Value.bool false)), (DV.v (Value.bool false)), (DV.v (Value.bool false)), (DV.v (Value.bool false)), (DV.v (Value.bool false)), (DV.v (Value.bool false)), (DV.v (Value.bool false)), (DV.v (Value.bool false)), (DV.v (Value.bool false)), (DV.v (Value.bool false)), (DV.v (Value.bool false)), (DV.v (Value.bool false)), (DV.v (Value.bool false)), (DV.v (Value.bool false)), (DV.v (Value.bool false)), (DV.v (Value.bool false)), (DV.v (Value.bool false)), (DV.v (Value.bool false)), (DV.v (Value.bool false)), (DV.v (Value.bool false)), (DV.v (Value.bool false)), (DV.v (Value.bool false)), (DV.v (Value.bool false)), (DV.v (Value.bool false)), (DV.v (Value.bool false)), (DV.v (Value.bool false)), (DV.v (Value.bool false)), (DV.v (Value.bool false)), (DV.v (Value.bool false)), (DV.v (Value.bool false)), (DV.v (Value.bool false)), (DV.v (Value.bool false)), (DV.v (Value.bool false)), (DV.v (Value.bool false)), (DV.v (Value.bool false)), (DV.v (Value.bool false)), (DV.v (Value.bool false)), (DV.v (Value.bool false)), (DV.v (Value.bool false)), (DV.v (Value.bool false)), (DV.v (Value.bool false)), (DV.v (Value.bool false)), (DV.v (Value.bool false)), (DV.v (Value.bool false)), (DV.v (Value.bool false)), (DV.v (Value.bool false)), (DV.v (Value.bool false)), (DV.v (Value.bool false)), (DV.v (Value.bool false)), (DV.v (Value.bool false)), (DV.v (Value.bool false)), (DV.v (Value.bool false)), (DV.v (Value.bool false)), (DV.v (Value.bool false)), (DV.v (Value.bool false)), (DV.v (Value.bool false)), (DV.v (Value.bool false)), (DV.v (Value.bool false)), (DV.v (Value.bool false)), (DV.v (Value.bool false))]] c)) : H6 x3 x33 x34 x35 b89 b89_1 c := head_rule (n := 400) (noSum_ok _) (by kernel_rfl) h
theorem H13_step (x3 : Int) (x44 : List (List DV)) (x45 : Int) (x46 : Int) (b89 : List (List DV)) (b89_1 : List (List DV)) (b1048592 : List (List DV)) (c : (Int × Unit)) (h :
    cond (decide ((x46 < x45))) (
      needs ((0 : Int) ≤ x46) (
      optAll ((x44)[(Int.toNat x46)]?) fun (r10 : List DV) =>
      optAll ((dLst 1 r10 0)) fun (l11 : List (List DV)) =>
      H16 x3 x44 x45 x46 l11 (((l11).length : Nat) : Int) (0 : Int) b89 b89_1 b1048592 c)) (
      c = ((0 : Int), ()))) : H13 x3 x44 x45 x46 b89 b89_1 b1048592 c := head_rule (n := 400) (noSum_ok _) (by kernel_rfl) h
theorem H16_step (x3 : Int) (x44 : List (List DV)) (x45 : Int) (x46 : Int) (x50 : List (List DV)) (x51 : Int) (x52 : Int) (b89 : List (List DV)) (b89_1 : List (List DV)) (b1048592 : List (List DV)) (c : (Int × Unit)) (h :
    cond (decide ((x52 < x51))) (
      needs ((0 : Int) ≤ x52) (
      optAll ((x50)[(Int.toNat x52)]?) fun (r12 : List DV) =>
      optAll ((dInt IntKind.i64 r12 0)) fun (z13 : Int) =>
      cond (decide ((z13 < (0 : Int)))) (
        c = ((2 : Int), ())) (
        cond (decide ((z13 ≥ x3))) (
          c = ((2 : Int), ())) (
          needs (((0 : Int) ≤ z13) ∧ (z13 < (64 : Int))) (
          optAll ((b1048592)[0]?) fun (r14 : List DV) =>
          optAll ((dBool r14 (0 + ((Int.toNat z13) * 1)))) fun (z15 : Bool) =>
          cond (z15) (
            c = ((2 : Int), ())) (
            needs ((0 : Int) ≤ z13) (
            optAll ((b89)[(Int.toNat z13)]?) fun (r16 : List DV) =>
            optAll ((dInt IntKind.i64 r16 0)) fun (z17 : Int) =>
            optAll ((dInt IntKind.i64 r16 1)) fun (z18 : Int) =>
            optAll ((dInt IntKind.i64 r16 2)) fun (z19 : Int) =>
            optAll ((dInt IntKind.i64 r16 3)) fun (z20 : Int) =>
            optAll ((dInt IntKind.i64 r16 4)) fun (z21 : Int) =>
            optAll ((dInt IntKind.i64 r16 5)) fun (z22 : Int) =>
            optAll ((dInt IntKind.i64 r16 6)) fun (z23 : Int) =>
            optAll ((dInt IntKind.i64 r16 7)) fun (z24 : Int) =>
            optAll (arena_isLive.R z17 z18 z19 z20 z21 z22 z23 z24) fun (c25 : (Bool × Unit)) =>
            cond ((c25).1) (
              c = ((2 : Int), ())) (
              needs ((0 : Int) ≤ z13) (
              optAll ((b89)[(Int.toNat z13)]?) fun (r26 : List DV) =>
              optAll ((dInt IntKind.i64 r26 1)) fun (z27 : Int) =>
              cond ((z27 == (-1 : Int))) (
                c = ((2 : Int), ())) (
                needs (((0 : Int) ≤ z13) ∧ (z13 < (64 : Int))) (
                optAll ((b1048592)[0]?) fun (r28 : List DV) =>
                needs (((0 + ((Int.toNat z13) * 1)) + 1) ≤ (r28).length) (
                H16 x3 x44 x45 x46 x50 x51 (IntKind.i64.wrap (x52 + (1 : Int))) b89 b89_1 ((b1048592).set (0) (putD r28 (0 + ((Int.toNat z13) * 1)) [(DV.v (Value.bool true))])) c)))))))))))) (
      H13 x3 x44 x45 (IntKind.i64.wrap (x46 + (1 : Int))) b89 b89_1 b1048592 c)) : H16 x3 x44 x45 x46 x50 x51 x52 b89 b89_1 b1048592 c := head_rule (n := 400) (noSum_ok _) (by kernel_rfl) h
end arena_Check
/-! garrison/arena.list -/
namespace arena_list
def lv : Live := []
theorem start (a0_0 : List (List DV)) (a0_1 : List (List DV)) (a1 : Int) (a2 : List (List DV)) (c : ((List (List DV) × (List (List DV) × Unit)) × Unit)) (h :
    needs ((((a0_1).length * 24) ≤ 140737488355328) ∧ (((a0_1).length * 1) ≤ 140737488355328)) (
    needs (((0 : Int) ≤ a1) ∧ (a1 < (((a0_1).length : Nat) : Int))) (
    optAll ((a0_1)[(0 + (Int.toNat a1))]?) fun (r0 : List DV) =>
    needs (1 ≤ (r0).length) (
    c = ((a0_0, (((((a0_1).set ((0 + (Int.toNat a1))) (putD r0 0 [(DV.lst 1 a2)]))).take ((a0_1).length)), ())), ()))))) : R a0_0 a0_1 a1 a2 = some c := start_rule (n := 400) (lv := lv) (noSum_ok _) (by kernel_rfl) h
end arena_list
/-! garrison/arena.put -/
namespace arena_put
def lv : Live := []
theorem start (a0_0 : List (List DV)) (a0_1 : List (List DV)) (a1 : Int) (a2_0 : Int) (a2_1 : Int) (a2_2 : Int) (a2_3 : Int) (a2_4 : Int) (a2_5 : Int) (a2_6 : Int) (a2_7 : Int) (c : ((List (List DV) × (List (List DV) × Unit)) × Unit)) (h :
    needs ((((a0_0).length * 64) ≤ 140737488355328) ∧ (((a0_0).length * 8) ≤ 140737488355328)) (
    needs (((0 : Int) ≤ a1) ∧ (a1 < (((a0_0).length : Nat) : Int))) (
    optAll ((a0_0)[(0 + (Int.toNat a1))]?) fun (r0 : List DV) =>
    needs (8 ≤ (r0).length) (
    c = ((((((a0_0).set ((0 + (Int.toNat a1))) (putD r0 0 [(DV.v (Value.int IntKind.i64 a2_0)), (DV.v (Value.int IntKind.i64 a2_1)), (DV.v (Value.int IntKind.i64 a2_2)), (DV.v (Value.int IntKind.i64 a2_3)), (DV.v (Value.int IntKind.i64 a2_4)), (DV.v (Value.int IntKind.i64 a2_5)), (DV.v (Value.int IntKind.i64 a2_6)), (DV.v (Value.int IntKind.i64 a2_7))]))).take ((a0_0).length)), (a0_1, ())), ()))))) : R a0_0 a0_1 a1 a2_0 a2_1 a2_2 a2_3 a2_4 a2_5 a2_6 a2_7 = some c := start_rule (n := 400) (lv := lv) (noSum_ok _) (by kernel_rfl) h
end arena_put
/-! garrison/arena.has -/
namespace arena_has
def lv : Live := []
theorem start (a0_0 : List (List DV)) (a0_1 : List (List DV)) (a1 : Int) (c : (Bool × Unit)) (h :
    cond (decide ((a1 ≥ (0 : Int)))) (
      cond (decide ((a1 < (((a0_0).length : Nat) : Int)))) (
        optAll (arena_Check.R a0_0 a0_1) fun (c0 : (Int × Unit)) =>
        c = (((c0).1 == (0 : Int)), ())) (
        c = (false, ()))) (
      c = (false, ()))) : R a0_0 a0_1 a1 = some c := start_rule (n := 400) (lv := lv) (noSum_ok _) (by kernel_rfl) h
end arena_has
/-! garrison/handle.Next -/
namespace handle_Next
def lv : Live := []
theorem start (a0 : Int) (c : (Int × Unit)) (h :
    optAll (handle_isGen.R a0) fun (c0 : (Bool × Unit)) =>
    cond ((!(c0).1)) (
      c = ((-1 : Int), ())) (
      cond ((a0 == (4095 : Int))) (
        c = ((-1 : Int), ())) (
        c = ((IntKind.i64.wrap (a0 + (1 : Int))), ())))) : R a0 = some c := start_rule (n := 400) (lv := lv) (noSum_ok _) (by kernel_rfl) h
end handle_Next
/-! garrison/arena.isFree -/
namespace arena_isFree
def lv : Live := []
theorem start (a0_0 : List (List DV)) (a0_1 : List (List DV)) (a1 : Int) (c : (Bool × Unit)) (h :
    optAll (slices_ContainsFunc_int_int__arena_isFree_1.R a0_1 a1) fun (c0 : (Bool × Unit)) =>
    c = ((c0).1, ())) : R a0_0 a0_1 a1 = some c := start_rule (n := 400) (lv := lv) (noSum_ok _) (by kernel_rfl) h
end arena_isFree
/-! garrison/garrisonref09.Is -/
namespace ref09_Is
def lv : Live := [((5, 1048576), [1, 3], [148]), ((10, 2097152), [1, 3, 4], [148]), ((16, 2097152), [1, 6], [148])]
abbrev H5 (x3 : Int) (b148 : List (List DV)) (b148_1 : List (List DV)) (c : (Bool × Unit)) : Prop := HeadAns cfg 40 sh lv (bd cfg 40 [1, 1, 0, 1, 0, 0]) 1048576 [.inBlock 0, .code (bd cfg 40 [1, 1, 1])]
  [(AV.ptr 148 0 0 0), (AV.d (DV.v (Value.int IntKind.i64 x3)))] [(Option.some (VBlk.cell 2 0 [(AV.d (DV.lst 8 b148)), (AV.d (DV.lst 1 b148_1))]))] 1048576 c
abbrev H10 (x3 : Int) (x4 : Int) (b148 : List (List DV)) (b148_1 : List (List DV)) (c : (Bool × Unit)) : Prop := HeadAns cfg 40 sh lv (bd cfg 40 [1, 1, 0, 1, 0, 0, 1, 0, 0, 1, 1, 0, 0]) 2097152 [.inBlock 2, .inBlock 1, .code (bd cfg 40 [1, 1, 0, 1, 0, 0, 1, 1]), .inLoop (bd cfg 40 [1, 1, 0, 1, 0, 0]) 1048576, .inBlock 0, .code (bd cfg 40 [1, 1, 1])]
  [(AV.ptr 148 0 0 0), (AV.d (DV.v (Value.int IntKind.i64 x3))), (AV.d (DV.v (Value.int IntKind.i64 x4)))] [(Option.some (VBlk.cell 2 0 [(AV.d (DV.lst 8 b148)), (AV.d (DV.lst 1 b148_1))]))] 2097152 c
abbrev H16 (x6 : Int) (b148 : List (List DV)) (b148_1 : List (List DV)) (c : (Bool × Unit)) : Prop := HeadAns cfg 40 sh lv (bd cfg 40 [1, 1, 1, 0, 1, 0, 0]) 2097152 [.inBlock 4, .code (bd cfg 40 [1, 1, 1, 1])]
  [(AV.ptr 148 0 0 0), (AV.d (DV.v (Value.int IntKind.i64 x6)))] [(Option.some (VBlk.cell 2 0 [(AV.d (DV.lst 8 b148)), (AV.d (DV.lst 1 b148_1))]))] 2097152 c
theorem start (a0_0 : List (List DV)) (a0_1 : List (List DV)) (c : (Bool × Unit)) (h :
    cond (decide (((((a0_0).length : Nat) : Int) < (1 : Int)))) (
      c = (false, ())) (
      cond (decide (((((a0_0).length : Nat) : Int) > (64 : Int)))) (
        c = (false, ())) (
        cond (decide (((((a0_1).length : Nat) : Int) < (1 : Int)))) (
          c = (false, ())) (
          cond (decide (((((a0_1).length : Nat) : Int) > (64 : Int)))) (
            c = (false, ())) (
            H5 (0 : Int) a0_0 a0_1 c))))) : R a0_0 a0_1 = some c := start_rule (n := 400) (lv := lv) (noSum_ok _) (by kernel_rfl) h
theorem H5_step (x3 : Int) (b148 : List (List DV)) (b148_1 : List (List DV)) (c : (Bool × Unit)) (h :
    cond (decide ((x3 < (((b148_1).length : Nat) : Int)))) (
      needs ((0 : Int) ≤ x3) (
      optAll ((b148_1)[(Int.toNat x3)]?) fun (r0 : List DV) =>
      optAll ((dLst 1 r0 0)) fun (l1 : List (List DV)) =>
      cond (decide (((((l1).length : Nat) : Int) > (64 : Int)))) (
        c = (false, ())) (
        H10 x3 (0 : Int) b148 b148_1 c))) (
      H16 (0 : Int) b148 b148_1 c)) : H5 x3 b148 b148_1 c := head_rule (n := 400) (noSum_ok _) (by kernel_rfl) h
theorem H10_step (x3 : Int) (x4 : Int) (b148 : List (List DV)) (b148_1 : List (List DV)) (c : (Bool × Unit)) (h :
    needs ((0 : Int) ≤ x3) (
    optAll ((b148_1)[(Int.toNat x3)]?) fun (r2 : List DV) =>
    optAll ((dLst 1 r2 0)) fun (l3 : List (List DV)) =>
    cond (decide ((x4 < (((l3).length : Nat) : Int)))) (
      needs ((0 : Int) ≤ x3) (
      optAll ((b148_1)[(Int.toNat x3)]?) fun (r4 : List DV) =>
      optAll ((dLst 1 r4 0)) fun (l5 : List (List DV)) =>
      needs ((0 : Int) ≤ x4) (
      optAll ((l5)[(Int.toNat x4)]?) fun (r6 : List DV) =>
      optAll ((dInt IntKind.i64 r6 0)) fun (z7 : Int) =>
      cond (decide ((z7 < (0 : Int)))) (
        c = (false, ())) (
        cond (decide ((z7 ≥ (((b148).length : Nat) : Int)))) (
          c = (false, ())) (
          needs ((0 : Int) ≤ z7) (
          optAll ((b148)[(Int.toNat z7)]?) fun (r8 : List DV) =>
          optAll ((dInt IntKind.i64 r8 0)) fun (z9 : Int) =>
          optAll ((dInt IntKind.i64 r8 1)) fun (z10 : Int) =>
          optAll ((dInt IntKind.i64 r8 2)) fun (z11 : Int) =>
          optAll ((dInt IntKind.i64 r8 3)) fun (z12 : Int) =>
          optAll ((dInt IntKind.i64 r8 4)) fun (z13 : Int) =>
          optAll ((dInt IntKind.i64 r8 5)) fun (z14 : Int) =>
          optAll ((dInt IntKind.i64 r8 6)) fun (z15 : Int) =>
          optAll ((dInt IntKind.i64 r8 7)) fun (z16 : Int) =>
          optAll (ref09_Live.R z9 z10 z11 z12 z13 z14 z15 z16) fun (c17 : (Bool × Unit)) =>
          cond ((c17).1) (
            c = (false, ())) (
            needs ((0 : Int) ≤ z7) (
            optAll ((b148)[(Int.toNat z7)]?) fun (r18 : List DV) =>
            optAll ((dInt IntKind.i64 r18 1)) fun (z19 : Int) =>
            cond ((z19 == (-1 : Int))) (
              c = (false, ())) (
              optAll (ref09_in.R b148 b148_1 z7) fun (c20 : (Int × Unit)) =>
              cond (((c20).1 != (1 : Int))) (
                c = (false, ())) (
                H10 x3 (IntKind.i64.wrap (x4 + (1 : Int))) b148 b148_1 c)))))))))) (
      H5 (IntKind.i64.wrap (x3 + (1 : Int))) b148 b148_1 c))) : H10 x3 x4 b148 b148_1 c := head_rule (n := 400) (noSum_ok _) (by kernel_rfl) h
theorem H16_step (x6 : Int) (b148 : List (List DV)) (b148_1 : List (List DV)) (c : (Bool × Unit)) (h :
    cond (decide ((x6 < (((b148).length : Nat) : Int)))) (
      needs ((0 : Int) ≤ x6) (
      optAll ((b148)[(Int.toNat x6)]?) fun (r21 : List DV) =>
      optAll ((dInt IntKind.i64 r21 0)) fun (z22 : Int) =>
      optAll ((dInt IntKind.i64 r21 1)) fun (z23 : Int) =>
      optAll ((dInt IntKind.i64 r21 2)) fun (z24 : Int) =>
      optAll ((dInt IntKind.i64 r21 3)) fun (z25 : Int) =>
      optAll ((dInt IntKind.i64 r21 4)) fun (z26 : Int) =>
      optAll ((dInt IntKind.i64 r21 5)) fun (z27 : Int) =>
      optAll ((dInt IntKind.i64 r21 6)) fun (z28 : Int) =>
      optAll ((dInt IntKind.i64 r21 7)) fun (z29 : Int) =>
      cond (decide ((z22 < (0 : Int)))) (
        c = (false, ())) (
        cond (decide ((z22 > (5 : Int)))) (
          c = (false, ())) (
          cond (decide ((z23 < (-1 : Int)))) (
            c = (false, ())) (
            cond (decide ((z23 > (4095 : Int)))) (
              c = (false, ())) (
              cond ((z23 == (-1 : Int))) (
                optAll (ref09_Live.R z22 z23 z24 z25 z26 z27 z28 z29) fun (c30 : (Bool × Unit)) =>
                cond ((c30).1) (
                  c = (false, ())) (
                  cond (decide ((z24 < (0 : Int)))) (
                    c = (false, ())) (
                    cond (decide ((z24 > (0 : Int)))) (
                      optAll (ref09_Live.R z22 z23 z24 z25 z26 z27 z28 z29) fun (c31 : (Bool × Unit)) =>
                      cond ((!(c31).1)) (
                        c = (false, ())) (
                        H16 (IntKind.i64.wrap (x6 + (1 : Int))) b148 b148_1 c)) (
                      H16 (IntKind.i64.wrap (x6 + (1 : Int))) b148 b148_1 c)))) (
                cond (decide ((z24 < (0 : Int)))) (
                  c = (false, ())) (
                  cond (decide ((z24 > (0 : Int)))) (
                    optAll (ref09_Live.R z22 z23 z24 z25 z26 z27 z28 z29) fun (c32 : (Bool × Unit)) =>
                    cond ((!(c32).1)) (
                      c = (false, ())) (
                      H16 (IntKind.i64.wrap (x6 + (1 : Int))) b148 b148_1 c)) (
                    H16 (IntKind.i64.wrap (x6 + (1 : Int))) b148 b148_1 c))))))))) (
      c = (true, ()))) : H16 x6 b148 b148_1 c := head_rule (n := 400) (noSum_ok _) (by kernel_rfl) h
end ref09_Is
/-! garrison/garrisonref09.Live -/
namespace ref09_Live
def lv : Live := []
theorem start (a0_0 : Int) (a0_1 : Int) (a0_2 : Int) (a0_3 : Int) (a0_4 : Int) (a0_5 : Int) (a0_6 : Int) (a0_7 : Int) (c : (Bool × Unit)) (h :
    cond (decide ((a0_0 ≥ (1 : Int)))) (
      c = (decide ((a0_0 ≤ (5 : Int))), ())) (
      c = (false, ()))) : R a0_0 a0_1 a0_2 a0_3 a0_4 a0_5 a0_6 a0_7 = some c := start_rule (n := 400) (lv := lv) (noSum_ok _) (by kernel_rfl) h
end ref09_Live
/-! garrison/garrisonref09.list -/
namespace ref09_list
def lv : Live := []
theorem start (a0_0 : List (List DV)) (a0_1 : List (List DV)) (a1 : Int) (a2 : List (List DV)) (c : ((List (List DV) × (List (List DV) × Unit)) × Unit)) (h :
    needs ((((a0_1).length * 24) ≤ 140737488355328) ∧ (((a0_1).length * 1) ≤ 140737488355328)) (
    needs (((0 : Int) ≤ a1) ∧ (a1 < (((a0_1).length : Nat) : Int))) (
    optAll ((a0_1)[(0 + (Int.toNat a1))]?) fun (r0 : List DV) =>
    needs (1 ≤ (r0).length) (
    c = ((a0_0, (((((a0_1).set ((0 + (Int.toNat a1))) (putD r0 0 [(DV.lst 1 a2)]))).take ((a0_1).length)), ())), ()))))) : R a0_0 a0_1 a1 a2 = some c := start_rule (n := 400) (lv := lv) (noSum_ok _) (by kernel_rfl) h
end ref09_list
/-! garrison/garrisonref09.set -/
namespace ref09_set
def lv : Live := []
theorem start (a0_0 : List (List DV)) (a0_1 : List (List DV)) (a1 : Int) (a2_0 : Int) (a2_1 : Int) (a2_2 : Int) (a2_3 : Int) (a2_4 : Int) (a2_5 : Int) (a2_6 : Int) (a2_7 : Int) (c : ((List (List DV) × (List (List DV) × Unit)) × Unit)) (h :
    needs ((((a0_0).length * 64) ≤ 140737488355328) ∧ (((a0_0).length * 8) ≤ 140737488355328)) (
    needs (((0 : Int) ≤ a1) ∧ (a1 < (((a0_0).length : Nat) : Int))) (
    optAll ((a0_0)[(0 + (Int.toNat a1))]?) fun (r0 : List DV) =>
    needs (8 ≤ (r0).length) (
    c = ((((((a0_0).set ((0 + (Int.toNat a1))) (putD r0 0 [(DV.v (Value.int IntKind.i64 a2_0)), (DV.v (Value.int IntKind.i64 a2_1)), (DV.v (Value.int IntKind.i64 a2_2)), (DV.v (Value.int IntKind.i64 a2_3)), (DV.v (Value.int IntKind.i64 a2_4)), (DV.v (Value.int IntKind.i64 a2_5)), (DV.v (Value.int IntKind.i64 a2_6)), (DV.v (Value.int IntKind.i64 a2_7))]))).take ((a0_0).length)), (a0_1, ())), ()))))) : R a0_0 a0_1 a1 a2_0 a2_1 a2_2 a2_3 a2_4 a2_5 a2_6 a2_7 = some c := start_rule (n := 400) (lv := lv) (noSum_ok _) (by kernel_rfl) h
end ref09_set
/-! garrison/garrisonref09.place -/
namespace ref09_place
def lv : Live := []
theorem start (a0_0 : List (List DV)) (a0_1 : List (List DV)) (a1 : Int) (c : (Bool × Unit)) (h :
    optAll (ref09_Is.R a0_0 a0_1) fun (c0 : (Bool × Unit)) =>
    cond ((c0).1) (
      cond (decide ((a1 ≥ (0 : Int)))) (
        c = (decide ((a1 < (((a0_0).length : Nat) : Int))), ())) (
        c = (false, ()))) (
      c = (false, ()))) : R a0_0 a0_1 a1 = some c := start_rule (n := 400) (lv := lv) (noSum_ok _) (by kernel_rfl) h
end ref09_place
/-! garrison/garrisonref08.Next -/
namespace ref08_Next
def lv : Live := []
theorem start (a0 : Int) (c : (Int × Unit)) (h :
    cond (decide ((a0 < (0 : Int)))) (
      c = ((-1 : Int), ())) (
      cond (decide ((a0 ≥ (4095 : Int)))) (
        c = ((-1 : Int), ())) (
        c = ((IntKind.i64.wrap (a0 + (1 : Int))), ())))) : R a0 = some c := start_rule (n := 400) (lv := lv) (noSum_ok _) (by kernel_rfl) h
end ref08_Next
/-! garrison/garrisonref09.in -/
namespace ref09_in
def lv : Live := [((4, 1048576), [1, 2, 5, 6], [38]), ((7, 2097152), [1, 2, 5, 6, 7], [38])]
abbrev H4 (x1 : Int) (x5 : Int) (x6 : Int) (b38 : List (List DV)) (b38_1 : List (List DV)) (c : (Int × Unit)) : Prop := HeadAns cfg 46 sh lv (bd cfg 46 [1, 1, 0, 1, 0, 0]) 1048576 [.inBlock 0, .code (bd cfg 46 [1, 1, 1])]
  [(AV.d (DV.v (Value.int IntKind.i64 x1))), (AV.ptr 38 0 0 0), (AV.d (DV.v (Value.int IntKind.i64 x5))), (AV.d (DV.v (Value.int IntKind.i64 x6)))] [(Option.some (VBlk.cell 2 0 [(AV.d (DV.lst 8 b38)), (AV.d (DV.lst 1 b38_1))]))] 1048576 c
abbrev H7 (x1 : Int) (x5 : Int) (x6 : Int) (x7 : Int) (b38 : List (List DV)) (b38_1 : List (List DV)) (c : (Int × Unit)) : Prop := HeadAns cfg 46 sh lv (bd cfg 46 [1, 1, 0, 1, 0, 0, 1, 0, 0, 1, 0, 0]) 2097152 [.inBlock 2, .inBlock 1, .code (bd cfg 46 [1, 1, 0, 1, 0, 0, 1, 1]), .inLoop (bd cfg 46 [1, 1, 0, 1, 0, 0]) 1048576, .inBlock 0, .code (bd cfg 46 [1, 1, 1])]
  [(AV.d (DV.v (Value.int IntKind.i64 x1))), (AV.ptr 38 0 0 0), (AV.d (DV.v (Value.int IntKind.i64 x5))), (AV.d (DV.v (Value.int IntKind.i64 x6))), (AV.d (DV.v (Value.int IntKind.i64 x7)))] [(Option.some (VBlk.cell 2 0 [(AV.d (DV.lst 8 b38)), (AV.d (DV.lst 1 b38_1))]))] 2097152 c
theorem start (a0_0 : List (List DV)) (a0_1 : List (List DV)) (a1 : Int) (c : (Int × Unit)) (h :
    H4 a1 (0 : Int) (0 : Int) a0_0 a0_1 c) : R a0_0 a0_1 a1 = some c := start_rule (n := 400) (lv := lv) (noSum_ok _) (by kernel_rfl) h
theorem H4_step (x1 : Int) (x5 : Int) (x6 : Int) (b38 : List (List DV)) (b38_1 : List (List DV)) (c : (Int × Unit)) (h :
    cond (decide ((x6 < (((b38_1).length : Nat) : Int)))) (
      H7 x1 x5 x6 (0 : Int) b38 b38_1 c) (
      c = (x5, ()))) : H4 x1 x5 x6 b38 b38_1 c := head_rule (n := 400) (noSum_ok _) (by kernel_rfl) h
theorem H7_step (x1 : Int) (x5 : Int) (x6 : Int) (x7 : Int) (b38 : List (List DV)) (b38_1 : List (List DV)) (c : (Int × Unit)) (h :
    needs ((0 : Int) ≤ x6) (
    optAll ((b38_1)[(Int.toNat x6)]?) fun (r0 : List DV) =>
    optAll ((dLst 1 r0 0)) fun (l1 : List (List DV)) =>
    cond (decide ((x7 < (((l1).length : Nat) : Int)))) (
      needs ((0 : Int) ≤ x6) (
      optAll ((b38_1)[(Int.toNat x6)]?) fun (r2 : List DV) =>
      optAll ((dLst 1 r2 0)) fun (l3 : List (List DV)) =>
      needs ((0 : Int) ≤ x7) (
      optAll ((l3)[(Int.toNat x7)]?) fun (r4 : List DV) =>
      optAll ((dInt IntKind.i64 r4 0)) fun (z5 : Int) =>
      cond ((z5 == x1)) (
        H7 x1 (IntKind.i64.wrap (x5 + (1 : Int))) x6 (IntKind.i64.wrap (x7 + (1 : Int))) b38 b38_1 c) (
        H7 x1 x5 x6 (IntKind.i64.wrap (x7 + (1 : Int))) b38 b38_1 c)))) (
      H4 x1 x5 (IntKind.i64.wrap (x6 + (1 : Int))) b38 b38_1 c))) : H7 x1 x5 x6 x7 b38 b38_1 c := head_rule (n := 400) (noSum_ok _) (by kernel_rfl) h
end ref09_in
/-! garrison/arena.isThing -/
namespace arena_isThing
def lv : Live := []
theorem start (a0_0 : Int) (a0_1 : Int) (a0_2 : Int) (a0_3 : Int) (a0_4 : Int) (a0_5 : Int) (a0_6 : Int) (a0_7 : Int) (c : (Bool × Unit)) (h :
    optAll (arena_isLive.R a0_0 a0_1 a0_2 a0_3 a0_4 a0_5 a0_6 a0_7) fun (c0 : (Bool × Unit)) =>
    cond ((c0).1) (
      cond (decide ((a0_1 ≥ (0 : Int)))) (
        cond (decide ((a0_1 ≤ (4095 : Int)))) (
          c = (decide ((a0_2 ≥ (0 : Int))), ())) (
          c = (false, ()))) (
        c = (false, ()))) (
      cond ((a0_0 == (0 : Int))) (
        cond (decide ((a0_1 ≥ (-1 : Int)))) (
          cond (decide ((a0_1 ≤ (4095 : Int)))) (
            c = ((a0_2 == (0 : Int)), ())) (
            c = (false, ()))) (
          c = (false, ()))) (
        c = (false, ())))) : R a0_0 a0_1 a0_2 a0_3 a0_4 a0_5 a0_6 a0_7 = some c := start_rule (n := 400) (lv := lv) (noSum_ok _) (by kernel_rfl) h
end arena_isThing
/-! garrison/handle.isGen -/
namespace handle_isGen
def lv : Live := []
theorem start (a0 : Int) (c : (Bool × Unit)) (h :
    cond (decide ((a0 ≥ (0 : Int)))) (
      c = (decide ((a0 ≤ (4095 : Int))), ())) (
      c = (false, ()))) : R a0 = some c := start_rule (n := 400) (lv := lv) (noSum_ok _) (by kernel_rfl) h
end handle_isGen
/-! slices.ContainsFunc[[][]int,[]int] -/
namespace slices_ContainsFunc_int_int__arena_isFree_1
def lv : Live := []
theorem start (a0 : List (List DV)) (b0 : Int) (c : (Bool × Unit)) (h :
    optAll (slices_IndexFunc_int_int__arena_isFree_1.R a0 b0) fun (c0 : (Int × Unit)) =>
    c = (decide (((c0).1 ≥ (0 : Int))), ())) : R a0 b0 = some c := own_rule (n := 400) (lv := lv) (noSum_ok _) (by kernel_rfl) h
end slices_ContainsFunc_int_int__arena_isFree_1
/-! slices.IndexFunc[[][]int,[]int] -/
namespace slices_IndexFunc_int_int__arena_isFree_1
def lv : Live := [((3, 1048576), [0, 1, 7, 8], [0])]
abbrev H3 (x0 : List (List DV)) (x7 : Int) (x8 : Int) (b0 : Int) (c : (Int × Unit)) : Prop := HeadAnsL wide cfg 53 sh lv (bd cfg 53 [1, 0, 1, 0, 0]) 1048576 [.inBlock 0, .code (bd cfg 53 [1, 1])]
  [(AV.d (DV.lst 1 x0)), (AV.fn 48 [(AV.ptr 0 0 0 0)]), (AV.d (DV.v (Value.int IntKind.i64 x7))), (AV.d (DV.v (Value.int IntKind.i64 x8)))] [(Option.some (VBlk.cell 1 0 [(AV.d (DV.v (Value.int IntKind.i64 b0)))]))] 1048576 c
theorem start (a0 : List (List DV)) (b0 : Int) (c : (Int × Unit)) (h :
    H3 a0 (((a0).length : Nat) : Int) (0 : Int) b0 c) : R a0 b0 = some c := own_rule (n := 400) (lv := lv) (noSum_ok _) (by kernel_rfl) h
theorem H3_step (x0 : List (List DV)) (x7 : Int) (x8 : Int) (b0 : Int) (c : (Int × Unit)) (h :
    cond (decide ((x8 < x7))) (
      needs ((0 : Int) ≤ x8) (
      optAll ((x0)[(Int.toNat x8)]?) fun (r0 : List DV) =>
      optAll ((dLst 1 r0 0)) fun (l1 : List (List DV)) =>
      optAll (slices_Contains_int_int.R l1 b0) fun (c2 : (Bool × Unit)) =>
      cond ((c2).1) (
        c = (x8, ())) (
        H3 x0 x7 (IntKind.i64.wrap (x8 + (1 : Int))) b0 c))) (
      c = ((-1 : Int), ()))) : H3 x0 x7 x8 b0 c := head_ruleL (n := 400) (noSum_ok _) (by kernel_rfl) h
end slices_IndexFunc_int_int__arena_isFree_1
/-! slices.Contains[[]int,int] -/
namespace slices_Contains_int_int
def lv : Live := []
theorem start (a0 : List (List DV)) (a1 : Int) (c : (Bool × Unit)) (h :
    optAll (slices_Index_int_int.R a0 a1) fun (c0 : (Int × Unit)) =>
    c = (decide (((c0).1 ≥ (0 : Int))), ())) : R a0 a1 = some c := start_rule (n := 400) (lv := lv) (noSum_ok _) (by kernel_rfl) h
end slices_Contains_int_int
/-! slices.Index[[]int,int] -/
namespace slices_Index_int_int
def lv : Live := [((3, 1048576), [0, 1, 7, 8], [])]
abbrev H3 (x0 : List (List DV)) (x1 : Int) (x7 : Int) (x8 : Int) (c : (Int × Unit)) : Prop := HeadAns cfg 54 sh lv (bd cfg 54 [1, 0, 1, 0, 0]) 1048576 [.inBlock 0, .code (bd cfg 54 [1, 1])]
  [(AV.d (DV.lst 1 x0)), (AV.d (DV.v (Value.int IntKind.i64 x1))), (AV.d (DV.v (Value.int IntKind.i64 x7))), (AV.d (DV.v (Value.int IntKind.i64 x8)))] [] 1048576 c
theorem start (a0 : List (List DV)) (a1 : Int) (c : (Int × Unit)) (h :
    H3 a0 a1 (((a0).length : Nat) : Int) (0 : Int) c) : R a0 a1 = some c := start_rule (n := 400) (lv := lv) (noSum_ok _) (by kernel_rfl) h
theorem H3_step (x0 : List (List DV)) (x1 : Int) (x7 : Int) (x8 : Int) (c : (Int × Unit)) (h :
    cond (decide ((x8 < x7))) (
      needs ((0 : Int) ≤ x8) (
      optAll ((x0)[(Int.toNat x8)]?) fun (r0 : List DV) =>
      optAll ((dInt IntKind.i64 r0 0)) fun (z1 : Int) =>
      cond ((x1 == z1)) (
        c = (x8, ())) (
        H3 x0 x1 x7 (IntKind.i64.wrap (x8 + (1 : Int))) c))) (
      c = ((-1 : Int), ()))) : H3 x0 x1 x7 x8 c := head_rule (n := 400) (noSum_ok _) (by kernel_rfl) h
end slices_Index_int_int
end Go.AI
