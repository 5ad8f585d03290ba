/-
  Own work: printed by Tell, a program of this work: what each function's body does over symbols.
-/
import Derived.Test.YtljhobohpnpedaaCfg
import Derived.KernelRfl
namespace Go.AI
open Go
set_option maxRecDepth 100000
set_option linter.unusedVariables false
set_option linter.unusedSimpArgs false
/-! garrison/garrisonlaw11.EpochSteps -/
namespace law11_EpochSteps
abbrev sh : List Sh := [.one (.bool)]
noncomputable abbrev R (a0_0 : Int) (a0_1 : List (List DV)) (a0_2 : List (List DV)) (a1_0 : Int) (a1_1 : List (List DV)) (a1_2 : List (List DV)) (a2_0 : Int) (a2_1 : Int) (a2_2 : Int) (a3 : Int) : Option (Bool × Unit) := retω cfg sh 3 [(AV.agg [(AV.d (DV.v (Value.int IntKind.i64 a0_0))), (AV.d (DV.lst 1 a0_1)), (AV.d (DV.lst 1 a0_2))]), (AV.agg [(AV.d (DV.v (Value.int IntKind.i64 a1_0))), (AV.d (DV.lst 1 a1_1)), (AV.d (DV.lst 1 a1_2))]), (AV.agg [(AV.d (DV.v (Value.int IntKind.i64 a2_0))), (AV.d (DV.v (Value.int IntKind.i64 a2_1))), (AV.d (DV.v (Value.int IntKind.i64 a2_2)))]), (AV.d (DV.v (Value.int IntKind.i64 a3)))]
end law11_EpochSteps
/-! garrison/garrisonlaw11.EpochRuns -/
namespace law11_EpochRuns
abbrev sh : List Sh := [.one (.bool)]
noncomputable abbrev R (a0 : Int) (a1 : List (List DV)) : Option (Bool × Unit) := retω cfg sh 4 [(AV.d (DV.v (Value.int IntKind.i64 a0))), (AV.d (DV.lst 3 a1))]
end law11_EpochRuns
/-! garrison/garrisonlaw11.EpochNow -/
namespace law11_EpochNow
abbrev sh : List Sh := [.one (.bool)]
noncomputable abbrev R (a0 : Int) (a1 : List (List DV)) : Option (Bool × Unit) := retω cfg sh 7 [(AV.d (DV.v (Value.int IntKind.i64 a0))), (AV.d (DV.lst 3 a1))]
end law11_EpochNow
/-! garrison/garrisonlaw11.EpochFull -/
namespace law11_EpochFull
abbrev sh : List Sh := [.one (.bool)]
noncomputable abbrev R (a0 : Int) (a1 : Int) (a2 : Int) : Option (Bool × Unit) := retω cfg sh 8 [(AV.d (DV.v (Value.int IntKind.i64 a0))), (AV.d (DV.v (Value.int IntKind.i64 a1))), (AV.d (DV.v (Value.int IntKind.i64 a2)))]
end law11_EpochFull
/-! garrison/garrisonlaw11.EpochOne -/
namespace law11_EpochOne
abbrev sh : List Sh := [.one (.bool)]
noncomputable abbrev R (a0 : Int) (a1 : Int) : Option (Bool × Unit) := retω cfg sh 9 [(AV.d (DV.v (Value.int IntKind.i64 a0))), (AV.d (DV.v (Value.int IntKind.i64 a1)))]
end law11_EpochOne
/-! garrison/garrisonlaw11.small -/
namespace law11_small
abbrev sh : List Sh := [.one (.bool)]
noncomputable abbrev R (a0_0 : Int) (a0_1 : List (List DV)) (a0_2 : List (List DV)) : Option (Bool × Unit) := retω cfg sh 10 [(AV.agg [(AV.d (DV.v (Value.int IntKind.i64 a0_0))), (AV.d (DV.lst 1 a0_1)), (AV.d (DV.lst 1 a0_2))])]
end law11_small
/-! garrison/garrisonlaw11.live -/
namespace law11_live
abbrev sh : List Sh := [.one (.bool)]
noncomputable abbrev R : Option (Bool × Unit) := retω cfg sh 11 []
end law11_live
/-! garrison/garrisonlaw11.does -/
namespace law11_does
abbrev sh : List Sh := [.agg [.int .i64, .lst 1, .lst 1], .one (.lst 1), .one (.int .i64)]
noncomputable abbrev R (a0_0 : Int) (a0_1 : List (List DV)) (a0_2 : List (List DV)) (a1_0 : Int) (a1_1 : Int) (a1_2 : Int) : Option ((Int × (List (List DV) × (List (List DV) × Unit))) × (List (List DV) × (Int × Unit))) := retω cfg sh 12 [(AV.agg [(AV.d (DV.v (Value.int IntKind.i64 a0_0))), (AV.d (DV.lst 1 a0_1)), (AV.d (DV.lst 1 a0_2))]), (AV.agg [(AV.d (DV.v (Value.int IntKind.i64 a1_0))), (AV.d (DV.v (Value.int IntKind.i64 a1_1))), (AV.d (DV.v (Value.int IntKind.i64 a1_2)))])]
end law11_does
/-! garrison/garrisonlaw11.model -/
namespace law11_model
abbrev sh : List Sh := [.agg [.int .i64, .lst 1, .lst 1], .one (.lst 1), .one (.int .i64)]
noncomputable abbrev R (a0_0 : Int) (a0_1 : List (List DV)) (a0_2 : List (List DV)) (a1_0 : Int) (a1_1 : Int) (a1_2 : Int) : Option ((Int × (List (List DV) × (List (List DV) × Unit))) × (List (List DV) × (Int × Unit))) := retω cfg sh 13 [(AV.agg [(AV.d (DV.v (Value.int IntKind.i64 a0_0))), (AV.d (DV.lst 1 a0_1)), (AV.d (DV.lst 1 a0_2))]), (AV.agg [(AV.d (DV.v (Value.int IntKind.i64 a1_0))), (AV.d (DV.v (Value.int IntKind.i64 a1_1))), (AV.d (DV.v (Value.int IntKind.i64 a1_2)))])]
end law11_model
/-! garrison/epoch.New -/
namespace epoch_New
abbrev sh : List Sh := [.agg [.int .i64, .lst 1, .lst 1], .one (.int .i64)]
noncomputable abbrev R (a0 : Int) : Option ((Int × (List (List DV) × (List (List DV) × Unit))) × (Int × Unit)) := retω cfg sh 14 [(AV.d (DV.v (Value.int IntKind.i64 a0)))]
end epoch_New
/-! garrison/garrisonref11.New -/
namespace ref11_New
abbrev sh : List Sh := [.agg [.int .i64, .lst 1, .lst 1], .one (.int .i64)]
noncomputable abbrev R (a0 : Int) : Option ((Int × (List (List DV) × (List (List DV) × Unit))) × (Int × Unit)) := retω cfg sh 15 [(AV.d (DV.v (Value.int IntKind.i64 a0)))]
end ref11_New
/-! garrison/garrisonref11.Same -/
namespace ref11_Same
abbrev sh : List Sh := [.one (.bool)]
noncomputable abbrev R (a0_0 : Int) (a0_1 : List (List DV)) (a0_2 : List (List DV)) (a1_0 : Int) (a1_1 : List (List DV)) (a1_2 : List (List DV)) : Option (Bool × Unit) := retω cfg sh 16 [(AV.agg [(AV.d (DV.v (Value.int IntKind.i64 a0_0))), (AV.d (DV.lst 1 a0_1)), (AV.d (DV.lst 1 a0_2))]), (AV.agg [(AV.d (DV.v (Value.int IntKind.i64 a1_0))), (AV.d (DV.lst 1 a1_1)), (AV.d (DV.lst 1 a1_2))])]
end ref11_Same
/-! garrison/garrisonref07.Ints -/
namespace ref07_Ints
abbrev sh : List Sh := [.one (.bool)]
noncomputable abbrev R (a0 : List (List DV)) (a1 : List (List DV)) : Option (Bool × Unit) := retω cfg sh 17 [(AV.d (DV.lst 1 a0)), (AV.d (DV.lst 1 a1))]
end ref07_Ints
/-! garrison/epoch.Check -/
namespace epoch_Check
abbrev sh : List Sh := [.one (.int .i64)]
noncomputable abbrev R (a0_0 : Int) (a0_1 : List (List DV)) (a0_2 : List (List DV)) : Option (Int × Unit) := retω cfg sh 19 [(AV.agg [(AV.d (DV.v (Value.int IntKind.i64 a0_0))), (AV.d (DV.lst 1 a0_1)), (AV.d (DV.lst 1 a0_2))])]
end epoch_Check
/-! garrison/garrisonlaw11.num -/
namespace law11_num
abbrev sh : List Sh := [.one (.int .i64)]
noncomputable abbrev R (a0 : Int) : Option (Int × Unit) := retω cfg sh 18 [(AV.d (DV.v (Value.int IntKind.i64 a0)))]
end law11_num
/-! garrison/garrisonref11.Is -/
namespace ref11_Is
abbrev sh : List Sh := [.one (.bool)]
noncomputable abbrev R (a0_0 : Int) (a0_1 : List (List DV)) (a0_2 : List (List DV)) : Option (Bool × Unit) := retω cfg sh 20 [(AV.agg [(AV.d (DV.v (Value.int IntKind.i64 a0_0))), (AV.d (DV.lst 1 a0_1)), (AV.d (DV.lst 1 a0_2))])]
end ref11_Is
/-! garrison/epoch.Same -/
namespace epoch_Same
abbrev sh : List Sh := [.one (.bool)]
noncomputable abbrev R (a0_0 : Int) (a0_1 : List (List DV)) (a0_2 : List (List DV)) (a1_0 : Int) (a1_1 : List (List DV)) (a1_2 : List (List DV)) : Option (Bool × Unit) := retω cfg sh 21 [(AV.agg [(AV.d (DV.v (Value.int IntKind.i64 a0_0))), (AV.d (DV.lst 1 a0_1)), (AV.d (DV.lst 1 a0_2))]), (AV.agg [(AV.d (DV.v (Value.int IntKind.i64 a1_0))), (AV.d (DV.lst 1 a1_1)), (AV.d (DV.lst 1 a1_2))])]
end epoch_Same
/-! garrison/epoch.Retire -/
namespace epoch_Retire
abbrev sh : List Sh := [.agg [.int .i64, .lst 1, .lst 1], .one (.int .i64)]
noncomputable abbrev R (a0_0 : Int) (a0_1 : List (List DV)) (a0_2 : List (List DV)) (a1 : Int) (a2 : Int) : Option ((Int × (List (List DV) × (List (List DV) × Unit))) × (Int × Unit)) := retω cfg sh 25 [(AV.agg [(AV.d (DV.v (Value.int IntKind.i64 a0_0))), (AV.d (DV.lst 1 a0_1)), (AV.d (DV.lst 1 a0_2))]), (AV.d (DV.v (Value.int IntKind.i64 a1))), (AV.d (DV.v (Value.int IntKind.i64 a2)))]
end epoch_Retire
/-! garrison/epoch.Advance -/
namespace epoch_Advance
abbrev sh : List Sh := [.agg [.int .i64, .lst 1, .lst 1], .one (.bool)]
noncomputable abbrev R (a0_0 : Int) (a0_1 : List (List DV)) (a0_2 : List (List DV)) : Option ((Int × (List (List DV) × (List (List DV) × Unit))) × (Bool × Unit)) := retω cfg sh 23 [(AV.agg [(AV.d (DV.v (Value.int IntKind.i64 a0_0))), (AV.d (DV.lst 1 a0_1)), (AV.d (DV.lst 1 a0_2))])]
end epoch_Advance
/-! garrison/epoch.Reap -/
namespace epoch_Reap
abbrev sh : List Sh := [.agg [.int .i64, .lst 1, .lst 1], .one (.lst 1)]
noncomputable abbrev R (a0_0 : Int) (a0_1 : List (List DV)) (a0_2 : List (List DV)) (a1 : Int) : Option ((Int × (List (List DV) × (List (List DV) × Unit))) × (List (List DV) × Unit)) := retω cfg sh 24 [(AV.agg [(AV.d (DV.v (Value.int IntKind.i64 a0_0))), (AV.d (DV.lst 1 a0_1)), (AV.d (DV.lst 1 a0_2))]), (AV.d (DV.v (Value.int IntKind.i64 a1)))]
end epoch_Reap
/-! garrison/epoch.Pin -/
namespace epoch_Pin
abbrev sh : List Sh := [.agg [.int .i64, .lst 1, .lst 1], .one (.int .i64)]
noncomputable abbrev R (a0_0 : Int) (a0_1 : List (List DV)) (a0_2 : List (List DV)) (a1 : Int) : Option ((Int × (List (List DV) × (List (List DV) × Unit))) × (Int × Unit)) := retω cfg sh 26 [(AV.agg [(AV.d (DV.v (Value.int IntKind.i64 a0_0))), (AV.d (DV.lst 1 a0_1)), (AV.d (DV.lst 1 a0_2))]), (AV.d (DV.v (Value.int IntKind.i64 a1)))]
end epoch_Pin
/-! garrison/epoch.Unpin -/
namespace epoch_Unpin
abbrev sh : List Sh := [.agg [.int .i64, .lst 1, .lst 1], .one (.int .i64)]
noncomputable abbrev R (a0_0 : Int) (a0_1 : List (List DV)) (a0_2 : List (List DV)) (a1 : Int) : Option ((Int × (List (List DV) × (List (List DV) × Unit))) × (Int × Unit)) := retω cfg sh 22 [(AV.agg [(AV.d (DV.v (Value.int IntKind.i64 a0_0))), (AV.d (DV.lst 1 a0_1)), (AV.d (DV.lst 1 a0_2))]), (AV.d (DV.v (Value.int IntKind.i64 a1)))]
end epoch_Unpin
/-! garrison/garrisonref11.Pin -/
namespace ref11_Pin
abbrev sh : List Sh := [.agg [.int .i64, .lst 1, .lst 1], .one (.int .i64)]
noncomputable abbrev R (a0_0 : Int) (a0_1 : List (List DV)) (a0_2 : List (List DV)) (a1 : Int) : Option ((Int × (List (List DV) × (List (List DV) × Unit))) × (Int × Unit)) := retω cfg sh 27 [(AV.agg [(AV.d (DV.v (Value.int IntKind.i64 a0_0))), (AV.d (DV.lst 1 a0_1)), (AV.d (DV.lst 1 a0_2))]), (AV.d (DV.v (Value.int IntKind.i64 a1)))]
end ref11_Pin
/-! garrison/garrisonref11.Unpin -/
namespace ref11_Unpin
abbrev sh : List Sh := [.agg [.int .i64, .lst 1, .lst 1], .one (.int .i64)]
noncomputable abbrev R (a0_0 : Int) (a0_1 : List (List DV)) (a0_2 : List (List DV)) (a1 : Int) : Option ((Int × (List (List DV) × (List (List DV) × Unit))) × (Int × Unit)) := retω cfg sh 28 [(AV.agg [(AV.d (DV.v (Value.int IntKind.i64 a0_0))), (AV.d (DV.lst 1 a0_1)), (AV.d (DV.lst 1 a0_2))]), (AV.d (DV.v (Value.int IntKind.i64 a1)))]
end ref11_Unpin
/-! garrison/garrisonref11.Retire -/
namespace ref11_Retire
abbrev sh : List Sh := [.agg [.int .i64, .lst 1, .lst 1], .one (.int .i64)]
noncomputable abbrev R (a0_0 : Int) (a0_1 : List (List DV)) (a0_2 : List (List DV)) (a1 : Int) (a2 : Int) : Option ((Int × (List (List DV) × (List (List DV) × Unit))) × (Int × Unit)) := retω cfg sh 29 [(AV.agg [(AV.d (DV.v (Value.int IntKind.i64 a0_0))), (AV.d (DV.lst 1 a0_1)), (AV.d (DV.lst 1 a0_2))]), (AV.d (DV.v (Value.int IntKind.i64 a1))), (AV.d (DV.v (Value.int IntKind.i64 a2)))]
end ref11_Retire
/-! garrison/garrisonref11.Advance -/
namespace ref11_Advance
abbrev sh : List Sh := [.agg [.int .i64, .lst 1, .lst 1], .one (.bool)]
noncomputable abbrev R (a0_0 : Int) (a0_1 : List (List DV)) (a0_2 : List (List DV)) : Option ((Int × (List (List DV) × (List (List DV) × Unit))) × (Bool × Unit)) := retω cfg sh 30 [(AV.agg [(AV.d (DV.v (Value.int IntKind.i64 a0_0))), (AV.d (DV.lst 1 a0_1)), (AV.d (DV.lst 1 a0_2))])]
end ref11_Advance
/-! garrison/garrisonref11.Reap -/
namespace ref11_Reap
abbrev sh : List Sh := [.agg [.int .i64, .lst 1, .lst 1], .one (.lst 1)]
noncomputable abbrev R (a0_0 : Int) (a0_1 : List (List DV)) (a0_2 : List (List DV)) (a1 : Int) : Option ((Int × (List (List DV) × (List (List DV) × Unit))) × (List (List DV) × Unit)) := retω cfg sh 31 [(AV.agg [(AV.d (DV.v (Value.int IntKind.i64 a0_0))), (AV.d (DV.lst 1 a0_1)), (AV.d (DV.lst 1 a0_2))]), (AV.d (DV.v (Value.int IntKind.i64 a1)))]
end ref11_Reap
/-! garrison/garrisonref11.wastes -/
namespace ref11_wastes
abbrev sh : List Sh := [.one (.bool)]
noncomputable abbrev R (a0 : List (List DV)) (a1 : List (List DV)) : Option (Bool × Unit) := retω cfg sh 32 [(AV.d (DV.lst 2 a0)), (AV.d (DV.lst 2 a1))]
end ref11_wastes
/-! garrison/epoch.isLimbo -/
namespace epoch_isLimbo
abbrev sh : List Sh := [.one (.bool)]
noncomputable abbrev R (a0 : List (List DV)) (a1 : Int) : Option (Bool × Unit) := retω cfg sh 33 [(AV.d (DV.lst 2 a0)), (AV.d (DV.v (Value.int IntKind.i64 a1)))]
end epoch_isLimbo
/-! slices.Equal[[]int64,int64] -/
namespace slices_Equal_int64_int64
abbrev sh : List Sh := [.one (.bool)]
noncomputable abbrev R (a0 : List (List DV)) (a1 : List (List DV)) : Option (Bool × Unit) := retω cfg sh 34 [(AV.d (DV.lst 1 a0)), (AV.d (DV.lst 1 a1))]
end slices_Equal_int64_int64
/-! slices.EqualFunc[[][]garrison/api.Waste,[][]garrison/api.Waste,[]garrison/api.Waste,[]garrison/api.Waste] -/
namespace slices_EqualFunc_api_Waste_api_Waste_api_Waste_api_Waste__slices_Equal_api_Waste_api_Waste
abbrev sh : List Sh := [.one (.bool)]
noncomputable abbrev R (a0 : List (List DV)) (a1 : List (List DV)) : Option (Bool × Unit) := retω cfg sh 35 [(AV.d (DV.lst 1 a0)), (AV.d (DV.lst 1 a1)), (AV.d (DV.fn 36 []))]
end slices_EqualFunc_api_Waste_api_Waste_api_Waste_api_Waste__slices_Equal_api_Waste_api_Waste
/-! garrison/epoch.has -/
namespace epoch_has
abbrev sh : List Sh := [.one (.bool)]
noncomputable abbrev R (a0_0 : Int) (a0_1 : List (List DV)) (a0_2 : List (List DV)) (a1 : Int) : Option (Bool × Unit) := retω cfg sh 37 [(AV.agg [(AV.d (DV.v (Value.int IntKind.i64 a0_0))), (AV.d (DV.lst 1 a0_1)), (AV.d (DV.lst 1 a0_2))]), (AV.d (DV.v (Value.int IntKind.i64 a1)))]
end epoch_has
/-! garrison/epoch.limbo -/
namespace epoch_limbo
abbrev sh : List Sh := [.agg [.int .i64, .lst 1, .lst 1]]
noncomputable abbrev R (a0_0 : Int) (a0_1 : List (List DV)) (a0_2 : List (List DV)) (a1 : Int) (a2 : List (List DV)) : Option ((Int × (List (List DV) × (List (List DV) × Unit))) × Unit) := retω cfg sh 41 [(AV.agg [(AV.d (DV.v (Value.int IntKind.i64 a0_0))), (AV.d (DV.lst 1 a0_1)), (AV.d (DV.lst 1 a0_2))]), (AV.d (DV.v (Value.int IntKind.i64 a1))), (AV.d (DV.lst 2 a2))]
end epoch_limbo
/-! slices.ContainsFunc[[]int64,int64] -/
namespace slices_ContainsFunc_int64_int64__epoch_Advance_1
abbrev sh : List Sh := [.one (.bool)]
noncomputable abbrev R (a0 : List (List DV)) (b0 : Int) (b0_1 : List (List DV)) (b0_2 : List (List DV)) : Option ((Bool × Unit) × Option ABlk) := lendT cfg sh 40 39 (DV.lst 1 a0) (VBlk.cell 3 0 [(AV.d (DV.v (Value.int IntKind.i64 b0))), (AV.d (DV.lst 1 b0_1)), (AV.d (DV.lst 1 b0_2))])
end slices_ContainsFunc_int64_int64__epoch_Advance_1
/-! garrison/epoch.pin -/
namespace epoch_pin
abbrev sh : List Sh := [.agg [.int .i64, .lst 1, .lst 1]]
noncomputable abbrev R (a0_0 : Int) (a0_1 : List (List DV)) (a0_2 : List (List DV)) (a1 : Int) (a2 : Int) : Option ((Int × (List (List DV) × (List (List DV) × Unit))) × Unit) := retω cfg sh 38 [(AV.agg [(AV.d (DV.v (Value.int IntKind.i64 a0_0))), (AV.d (DV.lst 1 a0_1)), (AV.d (DV.lst 1 a0_2))]), (AV.d (DV.v (Value.int IntKind.i64 a1))), (AV.d (DV.v (Value.int IntKind.i64 a2)))]
end epoch_pin
/-! garrison/garrisonref11.core -/
namespace ref11_core
abbrev sh : List Sh := [.one (.bool)]
noncomputable abbrev R (a0_0 : Int) (a0_1 : List (List DV)) (a0_2 : List (List DV)) (a1 : Int) : Option (Bool × Unit) := retω cfg sh 43 [(AV.agg [(AV.d (DV.v (Value.int IntKind.i64 a0_0))), (AV.d (DV.lst 1 a0_1)), (AV.d (DV.lst 1 a0_2))]), (AV.d (DV.v (Value.int IntKind.i64 a1)))]
end ref11_core
/-! garrison/garrisonref11.pin -/
namespace ref11_pin
abbrev sh : List Sh := [.agg [.int .i64, .lst 1, .lst 1]]
noncomputable abbrev R (a0_0 : Int) (a0_1 : List (List DV)) (a0_2 : List (List DV)) (a1 : Int) (a2 : Int) : Option ((Int × (List (List DV) × (List (List DV) × Unit))) × Unit) := retω cfg sh 44 [(AV.agg [(AV.d (DV.v (Value.int IntKind.i64 a0_0))), (AV.d (DV.lst 1 a0_1)), (AV.d (DV.lst 1 a0_2))]), (AV.d (DV.v (Value.int IntKind.i64 a1))), (AV.d (DV.v (Value.int IntKind.i64 a2)))]
end ref11_pin
/-! garrison/garrisonref11.limbo -/
namespace ref11_limbo
abbrev sh : List Sh := [.agg [.int .i64, .lst 1, .lst 1]]
noncomputable abbrev R (a0_0 : Int) (a0_1 : List (List DV)) (a0_2 : List (List DV)) (a1 : Int) (a2 : List (List DV)) : Option ((Int × (List (List DV) × (List (List DV) × Unit))) × Unit) := retω cfg sh 45 [(AV.agg [(AV.d (DV.v (Value.int IntKind.i64 a0_0))), (AV.d (DV.lst 1 a0_1)), (AV.d (DV.lst 1 a0_2))]), (AV.d (DV.v (Value.int IntKind.i64 a1))), (AV.d (DV.lst 2 a2))]
end ref11_limbo
/-! slices.Equal[[]garrison/api.Waste,garrison/api.Waste] -/
namespace slices_Equal_api_Waste_api_Waste
abbrev sh : List Sh := [.one (.bool)]
noncomputable abbrev R (a0 : List (List DV)) (a1 : List (List DV)) : Option (Bool × Unit) := retω cfg sh 36 [(AV.d (DV.lst 2 a0)), (AV.d (DV.lst 2 a1))]
end slices_Equal_api_Waste_api_Waste
/-! slices.IndexFunc[[]int64,int64] -/
namespace slices_IndexFunc_int64_int64__epoch_Advance_1
abbrev sh : List Sh := [.one (.int .i64)]
noncomputable abbrev R (a0 : List (List DV)) (b0 : Int) (b0_1 : List (List DV)) (b0_2 : List (List DV)) : Option ((Int × Unit) × Option ABlk) := lendT cfg sh 47 39 (DV.lst 1 a0) (VBlk.cell 3 0 [(AV.d (DV.v (Value.int IntKind.i64 b0))), (AV.d (DV.lst 1 b0_1)), (AV.d (DV.lst 1 b0_2))])
end slices_IndexFunc_int64_int64__epoch_Advance_1
/-! garrison/garrisonlaw11.EpochSteps -/
namespace law11_EpochSteps
def lv : Live := []
theorem start (a0_0 : Int) (a0_1 : List (List DV)) (a0_2 : List (List DV)) (a1_0 : Int) (a1_1 : List (List DV)) (a1_2 : List (List DV)) (a2_0 : Int) (a2_1 : Int) (a2_2 : Int) (a3 : Int) (c : (Bool × Unit)) (h :
    optAll (law11_small.R a0_0 a0_1 a0_2) fun (c0 : (Bool × Unit)) =>
    cond ((!(c0).1)) (
      optAll (law11_live.R) fun (c1 : (Bool × Unit)) =>
      c = ((c1).1, ())) (
      optAll (law11_small.R a1_0 a1_1 a1_2) fun (c2 : (Bool × Unit)) =>
      cond ((!(c2).1)) (
        optAll (law11_live.R) fun (c3 : (Bool × Unit)) =>
        c = ((c3).1, ())) (
        optAll (law11_does.R a0_0 a0_1 a0_2 a2_0 a2_1 a2_2) fun (c4 : ((Int × (List (List DV) × (List (List DV) × Unit))) × (List (List DV) × (Int × Unit)))) =>
        optAll (law11_model.R a0_0 a0_1 a0_2 a2_0 a2_1 a2_2) fun (c5 : ((Int × (List (List DV) × (List (List DV) × Unit))) × (List (List DV) × (Int × Unit)))) =>
        optAll (epoch_New.R a3) fun (c6 : ((Int × (List (List DV) × (List (List DV) × Unit))) × (Int × Unit))) =>
        optAll (ref11_New.R a3) fun (c7 : ((Int × (List (List DV) × (List (List DV) × Unit))) × (Int × Unit))) =>
        optAll (ref11_Same.R ((c4).1).1 (((c4).1).2).1 ((((c4).1).2).2).1 ((c5).1).1 (((c5).1).2).1 ((((c5).1).2).2).1) fun (c8 : (Bool × Unit)) =>
        cond ((c8).1) (
          optAll (ref07_Ints.R ((c4).2).1 ((c5).2).1) fun (c9 : (Bool × Unit)) =>
          cond ((c9).1) (
            cond (((((c4).2).2).1 == (((c5).2).2).1)) (
              optAll (epoch_Check.R a0_0 a0_1 a0_2) fun (c10 : (Int × Unit)) =>
              optAll (law11_num.R (c10).1) fun (c11 : (Int × Unit)) =>
              optAll (ref11_Is.R a0_0 a0_1 a0_2) fun (c12 : (Bool × Unit)) =>
              cond ((((c11).1 == (0 : Int)) == (c12).1)) (
                optAll (epoch_Same.R a0_0 a0_1 a0_2 a1_0 a1_1 a1_2) fun (c13 : (Bool × Unit)) =>
                optAll (ref11_Same.R a0_0 a0_1 a0_2 a1_0 a1_1 a1_2) fun (c14 : (Bool × Unit)) =>
                cond (((c13).1 == (c14).1)) (
                  optAll (ref11_Same.R ((c6).1).1 (((c6).1).2).1 ((((c6).1).2).2).1 ((c7).1).1 (((c7).1).2).1 ((((c7).1).2).2).1) fun (c15 : (Bool × Unit)) =>
                  cond ((c15).1) (
                    optAll (law11_num.R ((c6).2).1) fun (c16 : (Int × Unit)) =>
                    cond (((c16).1 == ((c7).2).1)) (
                      optAll (law11_live.R) fun (c17 : (Bool × Unit)) =>
                      c = ((c17).1, ())) (
                      c = (false, ()))) (
                    c = (false, ()))) (
                  c = (false, ()))) (
                c = (false, ()))) (
              c = (false, ()))) (
            c = (false, ()))) (
          c = (false, ()))))) : R a0_0 a0_1 a0_2 a1_0 a1_1 a1_2 a2_0 a2_1 a2_2 a3 = some c := start_rule (n := 400) (lv := lv) (noSum_ok _) (by kernel_rfl) h
end law11_EpochSteps
/-! garrison/garrisonlaw11.EpochRuns -/
namespace law11_EpochRuns
def lv : Live := [((9, 1048576), [1, 5, 7, 9], [236, 412])]
abbrev H9 (x1 : List (List DV)) (x9 : Int) (b236 : Int) (b236_1 : List (List DV)) (b236_2 : List (List DV)) (b412 : Int) (b412_1 : List (List DV)) (b412_2 : List (List DV)) (c : (Bool × Unit)) : Prop := HeadAns cfg 4 sh lv (bd cfg 4 [1, 1, 1, 1, 1, 0, 1, 0, 0]) 1048576 [.inBlock 0, .code (bd cfg 4 [1, 1, 1, 1, 1, 1])]
  [(AV.d (DV.lst 3 x1)), (AV.ptr 236 0 0 0), (AV.ptr 412 0 0 0), (AV.d (DV.v (Value.int IntKind.i64 x9)))] [(Option.some (VBlk.cell 3 0 [(AV.d (DV.v (Value.int IntKind.i64 b236))), (AV.d (DV.lst 1 b236_1)), (AV.d (DV.lst 1 b236_2))])), (Option.some (VBlk.cell 3 0 [(AV.d (DV.v (Value.int IntKind.i64 b412))), (AV.d (DV.lst 1 b412_1)), (AV.d (DV.lst 1 b412_2))]))] 1048576 c
theorem start (a0 : Int) (a1 : List (List DV)) (c : (Bool × Unit)) (h :
    cond (decide (((((a1).length : Nat) : Int) > (120 : Int)))) (
      optAll (law11_live.R) fun (c0 : (Bool × Unit)) =>
      c = ((c0).1, ())) (
      optAll (epoch_New.R a0) fun (c1 : ((Int × (List (List DV) × (List (List DV) × Unit))) × (Int × Unit))) =>
      optAll (law11_num.R ((c1).2).1) fun (c2 : (Int × Unit)) =>
      cond (((c2).1 != (0 : Int))) (
        cond (decide ((a0 < (1 : Int)))) (
          optAll (law11_live.R) fun (c3 : (Bool × Unit)) =>
          c = ((c3).1, ())) (
          cond (decide ((a0 > (64 : Int)))) (
            optAll (law11_live.R) fun (c4 : (Bool × Unit)) =>
            c = ((c4).1, ())) (
            c = (false, ())))) (
        optAll (ref11_New.R a0) fun (c5 : ((Int × (List (List DV) × (List (List DV) × Unit))) × (Int × Unit))) =>
        H9 a1 (0 : Int) ((c1).1).1 (((c1).1).2).1 ((((c1).1).2).2).1 ((c5).1).1 (((c5).1).2).1 ((((c5).1).2).2).1 c))) : R a0 a1 = some c := start_rule (n := 400) (lv := lv) (noSum_ok _) (by kernel_rfl) h
theorem H9_step (x1 : List (List DV)) (x9 : Int) (b236 : Int) (b236_1 : List (List DV)) (b236_2 : List (List DV)) (b412 : Int) (b412_1 : List (List DV)) (b412_2 : List (List DV)) (c : (Bool × Unit)) (h :
    cond (decide ((x9 < (((x1).length : Nat) : Int)))) (
      needs ((0 : Int) ≤ x9) (
      optAll ((x1)[(Int.toNat x9)]?) fun (r6 : List DV) =>
      optAll ((dInt IntKind.i64 r6 0)) fun (z7 : Int) =>
      optAll ((dInt IntKind.i64 r6 1)) fun (z8 : Int) =>
      optAll ((dInt IntKind.i64 r6 2)) fun (z9 : Int) =>
      optAll (law11_does.R b236 b236_1 b236_2 z7 z8 z9) fun (c10 : ((Int × (List (List DV) × (List (List DV) × Unit))) × (List (List DV) × (Int × Unit)))) =>
      needs ((0 : Int) ≤ x9) (
      optAll ((x1)[(Int.toNat x9)]?) fun (r11 : List DV) =>
      optAll ((dInt IntKind.i64 r11 0)) fun (z12 : Int) =>
      optAll ((dInt IntKind.i64 r11 1)) fun (z13 : Int) =>
      optAll ((dInt IntKind.i64 r11 2)) fun (z14 : Int) =>
      optAll (law11_model.R b412 b412_1 b412_2 z12 z13 z14) fun (c15 : ((Int × (List (List DV) × (List (List DV) × Unit))) × (List (List DV) × (Int × Unit)))) =>
      optAll (ref11_Same.R ((c10).1).1 (((c10).1).2).1 ((((c10).1).2).2).1 ((c15).1).1 (((c15).1).2).1 ((((c15).1).2).2).1) fun (c16 : (Bool × Unit)) =>
      cond ((!(c16).1)) (
        c = (false, ())) (
        optAll (ref07_Ints.R ((c10).2).1 ((c15).2).1) fun (c17 : (Bool × Unit)) =>
        cond ((!(c17).1)) (
          c = (false, ())) (
          cond (((((c10).2).2).1 != (((c15).2).2).1)) (
            c = (false, ())) (
            optAll (epoch_Check.R ((c10).1).1 (((c10).1).2).1 ((((c10).1).2).2).1) fun (c18 : (Int × Unit)) =>
            optAll (law11_num.R (c18).1) fun (c19 : (Int × Unit)) =>
            cond (((c19).1 != (0 : Int))) (
              c = (false, ())) (
              H9 x1 (IntKind.i64.wrap (x9 + (1 : Int))) ((c10).1).1 (((c10).1).2).1 ((((c10).1).2).2).1 ((c15).1).1 (((c15).1).2).1 ((((c15).1).2).2).1 c))))))) (
      optAll (law11_live.R) fun (c20 : (Bool × Unit)) =>
      c = ((c20).1, ()))) : H9 x1 x9 b236 b236_1 b236_2 b412 b412_1 b412_2 c := head_rule (n := 400) (noSum_ok _) (by kernel_rfl) h
end law11_EpochRuns
/-! garrison/garrisonlaw11.EpochNow -/
namespace law11_EpochNow
def lv : Live := [((8, 1048576), [1, 5, 7], [393]), ((14, 2097152), [1, 5, 7, 8, 11], [393, 1048800])]
abbrev H8 (x1 : List (List DV)) (x7 : Int) (b393 : Int) (b393_1 : List (List DV)) (b393_2 : List (List DV)) (c : (Bool × Unit)) : Prop := HeadAns cfg 7 sh lv (bd cfg 7 [1, 1, 1, 1, 0, 1, 0, 0]) 1048576 [.inBlock 0, .code (bd cfg 7 [1, 1, 1, 1, 1])]
  [(AV.d (DV.lst 3 x1)), (AV.ptr 393 0 0 0), (AV.d (DV.v (Value.int IntKind.i64 x7)))] [(Option.some (VBlk.cell 3 0 [(AV.d (DV.v (Value.int IntKind.i64 b393))), (AV.d (DV.lst 1 b393_1)), (AV.d (DV.lst 1 b393_2))]))] 1048576 c
abbrev H14 (x1 : List (List DV)) (x7 : Int) (x11 : Int) (b393 : Int) (b393_1 : List (List DV)) (b393_2 : List (List DV)) (b1048800 : Int) (b1048800_1 : List (List DV)) (b1048800_2 : List (List DV)) (c : (Bool × Unit)) : Prop := HeadAns cfg 7 sh lv (bd cfg 7 [1, 1, 1, 1, 0, 1, 0, 0, 1, 0, 0, 1, 1, 0, 1, 0, 0]) 2097152 [.inBlock 2, .code (bd cfg 7 [1, 1, 1, 1, 0, 1, 0, 0, 1, 0, 0, 1, 1, 1]), .inBlock 1, .code (bd cfg 7 [1, 1, 1, 1, 0, 1, 0, 0, 1, 1]), .inLoop (bd cfg 7 [1, 1, 1, 1, 0, 1, 0, 0]) 1048576, .inBlock 0, .code (bd cfg 7 [1, 1, 1, 1, 1])]
  [(AV.d (DV.lst 3 x1)), (AV.ptr 393 0 0 0), (AV.d (DV.v (Value.int IntKind.i64 x7))), (AV.ptr 1048800 0 0 0), (AV.d (DV.v (Value.int IntKind.i64 x11)))] [(Option.some (VBlk.cell 3 0 [(AV.d (DV.v (Value.int IntKind.i64 b393))), (AV.d (DV.lst 1 b393_1)), (AV.d (DV.lst 1 b393_2))])), (Option.some (VBlk.cell 3 0 [(AV.d (DV.v (Value.int IntKind.i64 b1048800))), (AV.d (DV.lst 1 b1048800_1)), (AV.d (DV.lst 1 b1048800_2))]))] 2097152 c
theorem start (a0 : Int) (a1 : List (List DV)) (c : (Bool × Unit)) (h :
    cond (decide ((a0 < (1 : Int)))) (
      optAll (law11_live.R) fun (c0 : (Bool × Unit)) =>
      c = ((c0).1, ())) (
      cond (decide ((a0 > (64 : Int)))) (
        optAll (law11_live.R) fun (c1 : (Bool × Unit)) =>
        c = ((c1).1, ())) (
        cond (decide (((((a1).length : Nat) : Int) > (120 : Int)))) (
          optAll (law11_live.R) fun (c2 : (Bool × Unit)) =>
          c = ((c2).1, ())) (
          optAll (epoch_New.R a0) fun (c3 : ((Int × (List (List DV) × (List (List DV) × Unit))) × (Int × Unit))) =>
          optAll (law11_num.R ((c3).2).1) fun (c4 : (Int × Unit)) =>
          cond (((c4).1 != (0 : Int))) (
            c = (false, ())) (
            H8 a1 (0 : Int) ((c3).1).1 (((c3).1).2).1 ((((c3).1).2).2).1 c))))) : R a0 a1 = some c := start_rule (n := 400) (lv := lv) (noSum_ok _) (by kernel_rfl) h
theorem H8_step (x1 : List (List DV)) (x7 : Int) (b393 : Int) (b393_1 : List (List DV)) (b393_2 : List (List DV)) (c : (Bool × Unit)) (h :
    cond (decide ((x7 < (((x1).length : Nat) : Int)))) (
      needs ((0 : Int) ≤ x7) (
      optAll ((x1)[(Int.toNat x7)]?) fun (r5 : List DV) =>
      optAll ((dInt IntKind.i64 r5 0)) fun (z6 : Int) =>
      optAll ((dInt IntKind.i64 r5 1)) fun (z7 : Int) =>
      optAll ((dInt IntKind.i64 r5 2)) fun (z8 : Int) =>
      optAll (law11_does.R b393 b393_1 b393_2 z6 z7 z8) fun (c9 : ((Int × (List (List DV) × (List (List DV) × Unit))) × (List (List DV) × (Int × Unit)))) =>
      needs ((0 : Int) ≤ x7) (
      optAll ((x1)[(Int.toNat x7)]?) fun (r10 : List DV) =>
      optAll ((dInt IntKind.i64 r10 0)) fun (z11 : Int) =>
      cond ((z11 == (3 : Int))) (
        cond (((((c9).2).2).1 == (1000 : Int))) (
          cond ((((c9).1).1 != (IntKind.i64.wrap (b393 + (1 : Int))))) (
            c = (false, ())) (
            needs ((0 : Int) ≤ x7) (
            optAll ((x1)[(Int.toNat x7)]?) fun (r12 : List DV) =>
            optAll ((dInt IntKind.i64 r12 0)) fun (z13 : Int) =>
            cond ((z13 != (3 : Int))) (
              cond ((((c9).1).1 != b393)) (
                c = (false, ())) (
                H14 x1 x7 (0 : Int) b393 b393_1 b393_2 ((c9).1).1 (((c9).1).2).1 ((((c9).1).2).2).1 c)) (
              cond (((((c9).2).2).1 != (1000 : Int))) (
                cond ((((c9).1).1 != b393)) (
                  c = (false, ())) (
                  H14 x1 x7 (0 : Int) b393 b393_1 b393_2 ((c9).1).1 (((c9).1).2).1 ((((c9).1).2).2).1 c)) (
                H14 x1 x7 (0 : Int) b393 b393_1 b393_2 ((c9).1).1 (((c9).1).2).1 ((((c9).1).2).2).1 c))))) (
          needs ((0 : Int) ≤ x7) (
          optAll ((x1)[(Int.toNat x7)]?) fun (r14 : List DV) =>
          optAll ((dInt IntKind.i64 r14 0)) fun (z15 : Int) =>
          cond ((z15 != (3 : Int))) (
            cond ((((c9).1).1 != b393)) (
              c = (false, ())) (
              H14 x1 x7 (0 : Int) b393 b393_1 b393_2 ((c9).1).1 (((c9).1).2).1 ((((c9).1).2).2).1 c)) (
            cond (((((c9).2).2).1 != (1000 : Int))) (
              cond ((((c9).1).1 != b393)) (
                c = (false, ())) (
                H14 x1 x7 (0 : Int) b393 b393_1 b393_2 ((c9).1).1 (((c9).1).2).1 ((((c9).1).2).2).1 c)) (
              H14 x1 x7 (0 : Int) b393 b393_1 b393_2 ((c9).1).1 (((c9).1).2).1 ((((c9).1).2).2).1 c))))) (
        needs ((0 : Int) ≤ x7) (
        optAll ((x1)[(Int.toNat x7)]?) fun (r16 : List DV) =>
        optAll ((dInt IntKind.i64 r16 0)) fun (z17 : Int) =>
        cond ((z17 != (3 : Int))) (
          cond ((((c9).1).1 != b393)) (
            c = (false, ())) (
            H14 x1 x7 (0 : Int) b393 b393_1 b393_2 ((c9).1).1 (((c9).1).2).1 ((((c9).1).2).2).1 c)) (
          cond (((((c9).2).2).1 != (1000 : Int))) (
            cond ((((c9).1).1 != b393)) (
              c = (false, ())) (
              H14 x1 x7 (0 : Int) b393 b393_1 b393_2 ((c9).1).1 (((c9).1).2).1 ((((c9).1).2).2).1 c)) (
            H14 x1 x7 (0 : Int) b393 b393_1 b393_2 ((c9).1).1 (((c9).1).2).1 ((((c9).1).2).2).1 c))))))) (
      optAll (law11_live.R) fun (c18 : (Bool × Unit)) =>
      c = ((c18).1, ()))) : H8 x1 x7 b393 b393_1 b393_2 c := head_rule (n := 400) (noSum_ok _) (by kernel_rfl) h
theorem H14_step (x1 : List (List DV)) (x7 : Int) (x11 : Int) (b393 : Int) (b393_1 : List (List DV)) (b393_2 : List (List DV)) (b1048800 : Int) (b1048800_1 : List (List DV)) (b1048800_2 : List (List DV)) (c : (Bool × Unit)) (h :
    cond (decide ((x11 < (((b1048800_1).length : Nat) : Int)))) (
      needs ((0 : Int) ≤ x11) (
      optAll ((b1048800_1)[(Int.toNat x11)]?) fun (r19 : List DV) =>
      optAll ((dInt IntKind.i64 r19 0)) fun (z20 : Int) =>
      cond ((z20 != (0 : Int))) (
        needs ((0 : Int) ≤ x11) (
        optAll ((b1048800_1)[(Int.toNat x11)]?) fun (r21 : List DV) =>
        optAll ((dInt IntKind.i64 r21 0)) fun (z22 : Int) =>
        cond (decide ((z22 < b1048800))) (
          c = (false, ())) (
          needs ((0 : Int) ≤ x11) (
          optAll ((b1048800_1)[(Int.toNat x11)]?) fun (r23 : List DV) =>
          optAll ((dInt IntKind.i64 r23 0)) fun (z24 : Int) =>
          cond (decide ((z24 > (IntKind.i64.wrap (b1048800 + (1 : Int)))))) (
            c = (false, ())) (
            H14 x1 x7 (IntKind.i64.wrap (x11 + (1 : Int))) b393 b393_1 b393_2 b1048800 b1048800_1 b1048800_2 c))))) (
        H14 x1 x7 (IntKind.i64.wrap (x11 + (1 : Int))) b393 b393_1 b393_2 b1048800 b1048800_1 b1048800_2 c))) (
      H8 x1 (IntKind.i64.wrap (x7 + (1 : Int))) b1048800 b1048800_1 b1048800_2 c)) : H14 x1 x7 x11 b393 b393_1 b393_2 b1048800 b1048800_1 b1048800_2 c := head_rule (n := 400) (noSum_ok _) (by kernel_rfl) h
end law11_EpochNow
/-! garrison/garrisonlaw11.EpochFull -/
namespace law11_EpochFull
def lv : Live := [((8, 1048576), [0, 1, 2, 7, 9], [615])]
abbrev H8 (x0 : Int) (x1 : Int) (x2 : Int) (x9 : Int) (b615 : Int) (b615_1 : List (List DV)) (b615_2 : List (List DV)) (c : (Bool × Unit)) : Prop := HeadAns cfg 8 sh lv (bd cfg 8 [1, 1, 1, 1, 0, 1, 0, 0]) 1048576 [.inBlock 0, .code (bd cfg 8 [1, 1, 1, 1, 1])]
  [(AV.d (DV.v (Value.int IntKind.i64 x0))), (AV.d (DV.v (Value.int IntKind.i64 x1))), (AV.d (DV.v (Value.int IntKind.i64 x2))), (AV.ptr 615 0 0 0), (AV.d (DV.v (Value.int IntKind.i64 x9)))] [(Option.some (VBlk.cell 3 0 [(AV.d (DV.v (Value.int IntKind.i64 b615))), (AV.d (DV.lst 1 b615_1)), (AV.d (DV.lst 1 b615_2))]))] 1048576 c
theorem start (a0 : Int) (a1 : Int) (a2 : Int) (c : (Bool × Unit)) (h :
    cond (decide ((a0 < (1 : Int)))) (
      optAll (law11_live.R) fun (c0 : (Bool × Unit)) =>
      c = ((c0).1, ())) (
      cond (decide ((a0 > (64 : Int)))) (
        optAll (law11_live.R) fun (c1 : (Bool × Unit)) =>
        c = ((c1).1, ())) (
        cond (decide ((a1 < (0 : Int)))) (
          optAll (law11_live.R) fun (c2 : (Bool × Unit)) =>
          c = ((c2).1, ())) (
          cond (decide ((a1 ≥ a0))) (
            optAll (law11_live.R) fun (c3 : (Bool × Unit)) =>
            c = ((c3).1, ())) (
            cond (decide ((a2 < (0 : Int)))) (
              optAll (law11_live.R) fun (c4 : (Bool × Unit)) =>
              c = ((c4).1, ())) (
              cond (decide ((a2 ≥ (64 : Int)))) (
                optAll (law11_live.R) fun (c5 : (Bool × Unit)) =>
                c = ((c5).1, ())) (
                optAll (epoch_New.R a0) fun (c6 : ((Int × (List (List DV) × (List (List DV) × Unit))) × (Int × Unit))) =>
                optAll (law11_num.R ((c6).2).1) fun (c7 : (Int × Unit)) =>
                cond (((c7).1 != (0 : Int))) (
                  c = (false, ())) (
                  H8 a0 a1 a2 (0 : Int) ((c6).1).1 (((c6).1).2).1 ((((c6).1).2).2).1 c)))))))) : R a0 a1 a2 = some c := start_rule (n := 400) (lv := lv) (noSum_ok _) (by kernel_rfl) h
theorem H8_step (x0 : Int) (x1 : Int) (x2 : Int) (x9 : Int) (b615 : Int) (b615_1 : List (List DV)) (b615_2 : List (List DV)) (c : (Bool × Unit)) (h :
    cond (decide ((x9 < (8 : Int)))) (
      optAll (epoch_Retire.R b615 b615_1 b615_2 x1 x2) fun (c8 : ((Int × (List (List DV) × (List (List DV) × Unit))) × (Int × Unit))) =>
      optAll (law11_num.R ((c8).2).1) fun (c9 : (Int × Unit)) =>
      cond (((c9).1 != (0 : Int))) (
        c = (false, ())) (
        H8 x0 x1 x2 (IntKind.i64.wrap (x9 + (1 : Int))) ((c8).1).1 (((c8).1).2).1 ((((c8).1).2).2).1 c)) (
      optAll (epoch_Retire.R b615 b615_1 b615_2 x1 x2) fun (c10 : ((Int × (List (List DV) × (List (List DV) × Unit))) × (Int × Unit))) =>
      needs (x0 ≠ (0 : Int)) (
      optAll (epoch_Retire.R b615 b615_1 b615_2 (Int.tmod (IntKind.i64.wrap (x1 + (1 : Int))) x0) x2) fun (c11 : ((Int × (List (List DV) × (List (List DV) × Unit))) × (Int × Unit))) =>
      optAll (law11_num.R ((c10).2).1) fun (c12 : (Int × Unit)) =>
      cond (((c12).1 != (5 : Int))) (
        c = (false, ())) (
        optAll (epoch_Same.R ((c10).1).1 (((c10).1).2).1 ((((c10).1).2).2).1 b615 b615_1 b615_2) fun (c13 : (Bool × Unit)) =>
        cond ((!(c13).1)) (
          c = (false, ())) (
          optAll (law11_num.R ((c11).2).1) fun (c14 : (Int × Unit)) =>
          cond ((!(((c14).1 == (0 : Int)) == ((Int.tmod (IntKind.i64.wrap (x1 + (1 : Int))) x0) != x1)))) (
            c = (false, ())) (
            optAll (epoch_Advance.R b615 b615_1 b615_2) fun (c15 : ((Int × (List (List DV) × (List (List DV) × Unit))) × (Bool × Unit))) =>
            optAll (epoch_Reap.R ((c15).1).1 (((c15).1).2).1 ((((c15).1).2).2).1 x1) fun (c16 : ((Int × (List (List DV) × (List (List DV) × Unit))) × (List (List DV) × Unit))) =>
            optAll (epoch_Advance.R ((c16).1).1 (((c16).1).2).1 ((((c16).1).2).2).1) fun (c17 : ((Int × (List (List DV) × (List (List DV) × Unit))) × (Bool × Unit))) =>
            optAll (epoch_Reap.R ((c17).1).1 (((c17).1).2).1 ((((c17).1).2).2).1 x1) fun (c18 : ((Int × (List (List DV) × (List (List DV) × Unit))) × (List (List DV) × Unit))) =>
            optAll (epoch_Retire.R ((c18).1).1 (((c18).1).2).1 ((((c18).1).2).2).1 x1 x2) fun (c19 : ((Int × (List (List DV) × (List (List DV) × Unit))) × (Int × Unit))) =>
            cond (((((((c16).2).1).length : Nat) : Int) == (0 : Int))) (
              cond (((((((c18).2).1).length : Nat) : Int) == (8 : Int))) (
                optAll (law11_num.R ((c19).2).1) fun (c20 : (Int × Unit)) =>
                cond (((c20).1 == (0 : Int))) (
                  optAll (law11_live.R) fun (c21 : (Bool × Unit)) =>
                  c = ((c21).1, ())) (
                  c = (false, ()))) (
                c = (false, ()))) (
              c = (false, ())))))))) : H8 x0 x1 x2 x9 b615 b615_1 b615_2 c := head_rule (n := 400) (noSum_ok _) (by kernel_rfl) h
end law11_EpochFull
/-! garrison/garrisonlaw11.EpochOne -/
namespace law11_EpochOne
def lv : Live := []
theorem start (a0 : Int) (a1 : Int) (c : (Bool × Unit)) (h :
    cond (decide ((a0 < (1 : Int)))) (
      optAll (law11_live.R) fun (c0 : (Bool × Unit)) =>
      c = ((c0).1, ())) (
      cond (decide ((a0 > (64 : Int)))) (
        optAll (law11_live.R) fun (c1 : (Bool × Unit)) =>
        c = ((c1).1, ())) (
        cond (decide ((a1 < (0 : Int)))) (
          optAll (law11_live.R) fun (c2 : (Bool × Unit)) =>
          c = ((c2).1, ())) (
          cond (decide ((a1 ≥ a0))) (
            optAll (law11_live.R) fun (c3 : (Bool × Unit)) =>
            c = ((c3).1, ())) (
            optAll (epoch_New.R a0) fun (c4 : ((Int × (List (List DV) × (List (List DV) × Unit))) × (Int × Unit))) =>
            optAll (epoch_Pin.R ((c4).1).1 (((c4).1).2).1 ((((c4).1).2).2).1 a1) fun (c5 : ((Int × (List (List DV) × (List (List DV) × Unit))) × (Int × Unit))) =>
            optAll (epoch_Pin.R ((c5).1).1 (((c5).1).2).1 ((((c5).1).2).2).1 a1) fun (c6 : ((Int × (List (List DV) × (List (List DV) × Unit))) × (Int × Unit))) =>
            optAll (epoch_Advance.R ((c5).1).1 (((c5).1).2).1 ((((c5).1).2).2).1) fun (c7 : ((Int × (List (List DV) × (List (List DV) × Unit))) × (Bool × Unit))) =>
            optAll (epoch_Advance.R ((c7).1).1 (((c7).1).2).1 ((((c7).1).2).2).1) fun (c8 : ((Int × (List (List DV) × (List (List DV) × Unit))) × (Bool × Unit))) =>
            optAll (epoch_Unpin.R ((c8).1).1 (((c8).1).2).1 ((((c8).1).2).2).1 a1) fun (c9 : ((Int × (List (List DV) × (List (List DV) × Unit))) × (Int × Unit))) =>
            optAll (epoch_Unpin.R ((c9).1).1 (((c9).1).2).1 ((((c9).1).2).2).1 a1) fun (c10 : ((Int × (List (List DV) × (List (List DV) × Unit))) × (Int × Unit))) =>
            optAll (epoch_Pin.R ((c9).1).1 (((c9).1).2).1 ((((c9).1).2).2).1 a1) fun (c11 : ((Int × (List (List DV) × (List (List DV) × Unit))) × (Int × Unit))) =>
            optAll (epoch_Advance.R ((c11).1).1 (((c11).1).2).1 ((((c11).1).2).2).1) fun (c12 : ((Int × (List (List DV) × (List (List DV) × Unit))) × (Bool × Unit))) =>
            optAll (law11_num.R ((c4).2).1) fun (c13 : (Int × Unit)) =>
            optAll (law11_num.R ((c5).2).1) fun (c14 : (Int × Unit)) =>
            optAll (law11_num.R ((c9).2).1) fun (c15 : (Int × Unit)) =>
            optAll (law11_num.R ((c11).2).1) fun (c16 : (Int × Unit)) =>
            cond (((IntKind.i64.wrap ((IntKind.i64.wrap ((IntKind.i64.wrap ((c13).1 + (c14).1)) + (c15).1)) + (c16).1)) == (0 : Int))) (
              optAll (law11_num.R ((c6).2).1) fun (c17 : (Int × Unit)) =>
              cond (((c17).1 == (8 : Int))) (
                optAll (law11_num.R ((c10).2).1) fun (c18 : (Int × Unit)) =>
                cond (((c18).1 == (7 : Int))) (
                  cond (((c7).2).1) (
                    cond ((!((c8).2).1)) (
                      cond (((c12).2).1) (
                        cond ((((c12).1).1 == (3 : Int))) (
                          optAll (law11_live.R) fun (c19 : (Bool × Unit)) =>
                          c = ((c19).1, ())) (
                          c = (false, ()))) (
                        c = (false, ()))) (
                      c = (false, ()))) (
                    c = (false, ()))) (
                  c = (false, ()))) (
                c = (false, ()))) (
              c = (false, ()))))))) : R a0 a1 = some c := start_rule (n := 400) (lv := lv) (noSum_ok _) (by kernel_rfl) h
end law11_EpochOne
/-! garrison/garrisonlaw11.small -/
namespace law11_small
def lv : Live := [((5, 1048576), [1, 3], [28])]
abbrev H5 (x3 : Int) (b28 : Int) (b28_1 : List (List DV)) (b28_2 : List (List DV)) (c : (Bool × Unit)) : Prop := HeadAns cfg 10 sh lv (bd cfg 10 [1, 1, 0, 1, 0, 0]) 1048576 [.inBlock 0, .code (bd cfg 10 [1, 1, 1])]
  [(AV.ptr 28 0 0 0), (AV.d (DV.v (Value.int IntKind.i64 x3)))] [(Option.some (VBlk.cell 3 0 [(AV.d (DV.v (Value.int IntKind.i64 b28))), (AV.d (DV.lst 1 b28_1)), (AV.d (DV.lst 1 b28_2))]))] 1048576 c
theorem start (a0_0 : Int) (a0_1 : List (List DV)) (a0_2 : List (List DV)) (c : (Bool × Unit)) (h :
    cond (decide (((((a0_1).length : Nat) : Int) > (70 : Int)))) (
      c = (false, ())) (
      cond (decide (((((a0_2).length : Nat) : Int) > (70 : Int)))) (
        c = (false, ())) (
        H5 (0 : Int) a0_0 a0_1 a0_2 c))) : R a0_0 a0_1 a0_2 = some c := start_rule (n := 400) (lv := lv) (noSum_ok _) (by kernel_rfl) h
theorem H5_step (x3 : Int) (b28 : Int) (b28_1 : List (List DV)) (b28_2 : List (List DV)) (c : (Bool × Unit)) (h :
    cond (decide ((x3 < (((b28_2).length : Nat) : Int)))) (
      needs ((0 : Int) ≤ x3) (
      optAll ((b28_2)[(Int.toNat x3)]?) fun (r0 : List DV) =>
      optAll ((dLst 2 r0 0)) fun (l1 : List (List DV)) =>
      cond (decide (((((l1).length : Nat) : Int) > (30 : Int)))) (
        c = (false, ())) (
        H5 (IntKind.i64.wrap (x3 + (1 : Int))) b28 b28_1 b28_2 c))) (
      c = (true, ()))) : H5 x3 b28 b28_1 b28_2 c := head_rule (n := 400) (noSum_ok _) (by kernel_rfl) h
end law11_small
/-! garrison/garrisonlaw11.live -/
namespace law11_live
theorem closed : R = some (true, ()) := ret_closed (n := 4000) (v := .d (.v (.bool true))) (by kernel_rfl) (by kernel_rfl)
end law11_live
/-! garrison/garrisonlaw11.does -/
namespace law11_does
def lv : Live := []
theorem start (a0_0 : Int) (a0_1 : List (List DV)) (a0_2 : List (List DV)) (a1_0 : Int) (a1_1 : Int) (a1_2 : Int) (c : ((Int × (List (List DV) × (List (List DV) × Unit))) × (List (List DV) × (Int × Unit)))) (h :
    cond ((a1_0 == (0 : Int))) (
      optAll (epoch_Pin.R a0_0 a0_1 a0_2 a1_1) fun (c0 : ((Int × (List (List DV) × (List (List DV) × Unit))) × (Int × Unit))) =>
      optAll (law11_num.R ((c0).2).1) fun (c1 : (Int × Unit)) =>
      c = ((((c0).1).1, ((((c0).1).2).1, (((((c0).1).2).2).1, ()))), ([], ((c1).1, ())))) (
      cond ((a1_0 == (1 : Int))) (
        optAll (epoch_Unpin.R a0_0 a0_1 a0_2 a1_1) fun (c2 : ((Int × (List (List DV) × (List (List DV) × Unit))) × (Int × Unit))) =>
        optAll (law11_num.R ((c2).2).1) fun (c3 : (Int × Unit)) =>
        c = ((((c2).1).1, ((((c2).1).2).1, (((((c2).1).2).2).1, ()))), ([], ((c3).1, ())))) (
        cond ((a1_0 == (2 : Int))) (
          optAll (epoch_Retire.R a0_0 a0_1 a0_2 a1_1 a1_2) fun (c4 : ((Int × (List (List DV) × (List (List DV) × Unit))) × (Int × Unit))) =>
          optAll (law11_num.R ((c4).2).1) fun (c5 : (Int × Unit)) =>
          c = ((((c4).1).1, ((((c4).1).2).1, (((((c4).1).2).2).1, ()))), ([], ((c5).1, ())))) (
          cond ((a1_0 == (3 : Int))) (
            optAll (epoch_Advance.R a0_0 a0_1 a0_2) fun (c6 : ((Int × (List (List DV) × (List (List DV) × Unit))) × (Bool × Unit))) =>
            cond (((c6).2).1) (
              c = ((((c6).1).1, ((((c6).1).2).1, (((((c6).1).2).2).1, ()))), ([], ((1000 : Int), ())))) (
              c = ((((c6).1).1, ((((c6).1).2).1, (((((c6).1).2).2).1, ()))), ([], ((0 : Int), ()))))) (
            optAll (epoch_Reap.R a0_0 a0_1 a0_2 a1_1) fun (c7 : ((Int × (List (List DV) × (List (List DV) × Unit))) × (List (List DV) × Unit))) =>
            c = ((((c7).1).1, ((((c7).1).2).1, (((((c7).1).2).2).1, ()))), (((c7).2).1, ((0 : Int), ())))))))) : R a0_0 a0_1 a0_2 a1_0 a1_1 a1_2 = some c := start_rule (n := 400) (lv := lv) (noSum_ok _) (by kernel_rfl) h
end law11_does
/-! garrison/garrisonlaw11.model -/
namespace law11_model
def lv : Live := []
theorem start (a0_0 : Int) (a0_1 : List (List DV)) (a0_2 : List (List DV)) (a1_0 : Int) (a1_1 : Int) (a1_2 : Int) (c : ((Int × (List (List DV) × (List (List DV) × Unit))) × (List (List DV) × (Int × Unit)))) (h :
    cond ((a1_0 == (0 : Int))) (
      optAll (ref11_Pin.R a0_0 a0_1 a0_2 a1_1) fun (c0 : ((Int × (List (List DV) × (List (List DV) × Unit))) × (Int × Unit))) =>
      c = ((((c0).1).1, ((((c0).1).2).1, (((((c0).1).2).2).1, ()))), ([], (((c0).2).1, ())))) (
      cond ((a1_0 == (1 : Int))) (
        optAll (ref11_Unpin.R a0_0 a0_1 a0_2 a1_1) fun (c1 : ((Int × (List (List DV) × (List (List DV) × Unit))) × (Int × Unit))) =>
        c = ((((c1).1).1, ((((c1).1).2).1, (((((c1).1).2).2).1, ()))), ([], (((c1).2).1, ())))) (
        cond ((a1_0 == (2 : Int))) (
          optAll (ref11_Retire.R a0_0 a0_1 a0_2 a1_1 a1_2) fun (c2 : ((Int × (List (List DV) × (List (List DV) × Unit))) × (Int × Unit))) =>
          c = ((((c2).1).1, ((((c2).1).2).1, (((((c2).1).2).2).1, ()))), ([], (((c2).2).1, ())))) (
          cond ((a1_0 == (3 : Int))) (
            optAll (ref11_Advance.R a0_0 a0_1 a0_2) fun (c3 : ((Int × (List (List DV) × (List (List DV) × Unit))) × (Bool × Unit))) =>
            cond (((c3).2).1) (
              c = ((((c3).1).1, ((((c3).1).2).1, (((((c3).1).2).2).1, ()))), ([], ((1000 : Int), ())))) (
              c = ((((c3).1).1, ((((c3).1).2).1, (((((c3).1).2).2).1, ()))), ([], ((0 : Int), ()))))) (
            optAll (ref11_Reap.R a0_0 a0_1 a0_2 a1_1) fun (c4 : ((Int × (List (List DV) × (List (List DV) × Unit))) × (List (List DV) × Unit))) =>
            c = ((((c4).1).1, ((((c4).1).2).1, (((((c4).1).2).2).1, ()))), (((c4).2).1, ((0 : Int), ())))))))) : R a0_0 a0_1 a0_2 a1_0 a1_1 a1_2 = some c := start_rule (n := 400) (lv := lv) (noSum_ok _) (by kernel_rfl) h
end law11_model
/-! garrison/epoch.New -/
namespace epoch_New
def lv : Live := []
theorem start (a0 : Int) (c : ((Int × (List (List DV) × (List (List DV) × Unit))) × (Int × Unit))) (h :
    cond (decide ((a0 < (1 : Int)))) (
      c = (((0 : Int), ([], ([], ()))), ((2 : Int), ()))) (
      cond (decide ((a0 > (64 : Int)))) (
        c = (((0 : Int), ([], ([], ()))), ((2 : Int), ()))) (
        needs ((a0 = a0) ∧ (((0 : Int) ≤ a0) ∧ (((a0 * (8 : Int)) ≤ (140737488355328 : Int)) ∧ ((a0 * (1 : Int)) ≤ (140737488355328 : Int))))) (
        needs ((a0 = a0) ∧ (((0 : Int) ≤ a0) ∧ (((a0 * (24 : Int)) ≤ (140737488355328 : Int)) ∧ ((a0 * (1 : Int)) ≤ (140737488355328 : Int))))) (
        c = (((1 : Int), ((((List.replicate ((Int.toNat a0)) [(DV.v (Value.int IntKind.i64 (0 : Int)))])).take ((Int.toNat a0))), ((((List.replicate ((Int.toNat a0)) [(DV.lst 2 [])])).take ((Int.toNat a0))), ()))), ((0 : Int), ()))))))) : R a0 = some c := start_rule (n := 400) (lv := lv) (noSum_ok _) (by kernel_rfl) h
end epoch_New
/-! garrison/garrisonref11.New -/
namespace ref11_New
def lv : Live := [((6, 1048576), [0, 2, 4, 5], [30, 31, 32, 174, 190, 191])]
abbrev H6 (x0 : Int) (x5 : Int) (b30 : Int) (b31 : List (List DV)) (b32 : List (List DV)) (b174 : Int) (b190 : List (List DV)) (b191 : List (List DV)) (c : ((Int × (List (List DV) × (List (List DV) × Unit))) × (Int × Unit))) : Prop := HeadAns cfg 15 sh lv (bd cfg 15 [1, 1, 1, 0, 1, 0, 0]) 1048576 [.inBlock 0, .code (bd cfg 15 [1, 1, 1, 1])]
  [(AV.d (DV.v (Value.int IntKind.i64 x0))), (AV.ptr 30 0 0 0), (AV.ptr 174 0 0 0), (AV.d (DV.v (Value.int IntKind.i64 x5)))] [(Option.some (VBlk.cell 3 0 [(AV.d (DV.v (Value.int IntKind.i64 b30))), (AV.ref 31 0 0 (List.length b31)), (AV.ref 32 0 0 (List.length b32))])), (Option.some (VBlk.drow 1 0 b31)), (Option.some (VBlk.drow 1 0 b32)), (Option.some (VBlk.cell 3 0 [(AV.d (DV.v (Value.int IntKind.i64 b174))), (AV.ref 190 0 0 (List.length b190)), (AV.ref 191 0 0 (List.length b191))])), (Option.some (VBlk.drow 1 0 b190)), (Option.some (VBlk.drow 1 0 b191))] 1048576 c
theorem start (a0 : Int) (c : ((Int × (List (List DV) × (List (List DV) × Unit))) × (Int × Unit))) (h :
    cond (decide ((a0 < (1 : Int)))) (
      c = (((0 : Int), ((([]).take (0)), ((([]).take (0)), ()))), ((2 : Int), ()))) (
      cond (decide ((a0 > (64 : Int)))) (
        c = (((0 : Int), ((([]).take (0)), ((([]).take (0)), ()))), ((2 : Int), ()))) (
        H6 a0 (0 : Int) (0 : Int) [] [] (1 : Int) [] [] c))) : R a0 = some c := start_rule (n := 400) (lv := lv) (noSum_ok _) (by kernel_rfl) h
theorem H6_step (x0 : Int) (x5 : Int) (b30 : Int) (b31 : List (List DV)) (b32 : List (List DV)) (b174 : Int) (b190 : List (List DV)) (b191 : List (List DV)) (c : ((Int × (List (List DV) × (List (List DV) × Unit))) × (Int × Unit))) (h :
    cond (decide ((x5 < x0))) (
      needs ((b190).length = (b190).length) (
      needs (((((b190 ++ (([[(DV.v (Value.int IntKind.i64 (0 : Int)))]]).take (1)))).length * 8) ≤ 140737488355328) ∧ ((((b190 ++ (([[(DV.v (Value.int IntKind.i64 (0 : Int)))]]).take (1)))).length * 1) ≤ 140737488355328)) (
      needs ((b191).length = (b191).length) (
      needs (((((b191 ++ (([[(DV.lst 2 [])]]).take (1)))).length * 24) ≤ 140737488355328) ∧ ((((b191 ++ (([[(DV.lst 2 [])]]).take (1)))).length * 1) ≤ 140737488355328)) (
      H6 x0 (IntKind.i64.wrap (x5 + (1 : Int))) b30 b31 b32 b174 (b190 ++ (([[(DV.v (Value.int IntKind.i64 (0 : Int)))]]).take (1))) (b191 ++ (([[(DV.lst 2 [])]]).take (1))) c))))) (
      c = ((b174, (((b190).take ((b190).length)), (((b191).take ((b191).length)), ()))), ((0 : Int), ())))) : H6 x0 x5 b30 b31 b32 b174 b190 b191 c := head_rule (n := 400) (noSum_ok _) (by kernel_rfl) h
end ref11_New
/-! garrison/garrisonref11.Same -/
namespace ref11_Same
def lv : Live := [((5, 1048576), [2, 3, 5], [67, 83]), ((10, 2097152), [2, 3, 6], [67, 83])]
abbrev H5 (x5 : Int) (b67 : Int) (b67_1 : List (List DV)) (b67_2 : List (List DV)) (b83 : Int) (b83_1 : List (List DV)) (b83_2 : List (List DV)) (c : (Bool × Unit)) : Prop := HeadAns cfg 16 sh lv (bd cfg 16 [1, 1, 0, 1, 0, 0]) 1048576 [.inBlock 0, .code (bd cfg 16 [1, 1, 1])]
  [(AV.ptr 67 0 0 0), (AV.ptr 83 0 0 0), (AV.d (DV.v (Value.int IntKind.i64 x5)))] [(Option.some (VBlk.cell 3 0 [(AV.d (DV.v (Value.int IntKind.i64 b67))), (AV.d (DV.lst 1 b67_1)), (AV.d (DV.lst 1 b67_2))])), (Option.some (VBlk.cell 3 0 [(AV.d (DV.v (Value.int IntKind.i64 b83))), (AV.d (DV.lst 1 b83_1)), (AV.d (DV.lst 1 b83_2))]))] 1048576 c
abbrev H10 (x6 : Int) (b67 : Int) (b67_1 : List (List DV)) (b67_2 : List (List DV)) (b83 : Int) (b83_1 : List (List DV)) (b83_2 : List (List DV)) (c : (Bool × Unit)) : Prop := HeadAns cfg 16 sh lv (bd cfg 16 [1, 1, 1, 0, 1, 0, 0]) 2097152 [.inBlock 2, .code (bd cfg 16 [1, 1, 1, 1])]
  [(AV.ptr 67 0 0 0), (AV.ptr 83 0 0 0), (AV.d (DV.v (Value.int IntKind.i64 x6)))] [(Option.some (VBlk.cell 3 0 [(AV.d (DV.v (Value.int IntKind.i64 b67))), (AV.d (DV.lst 1 b67_1)), (AV.d (DV.lst 1 b67_2))])), (Option.some (VBlk.cell 3 0 [(AV.d (DV.v (Value.int IntKind.i64 b83))), (AV.d (DV.lst 1 b83_1)), (AV.d (DV.lst 1 b83_2))]))] 2097152 c
theorem start (a0_0 : Int) (a0_1 : List (List DV)) (a0_2 : List (List DV)) (a1_0 : Int) (a1_1 : List (List DV)) (a1_2 : List (List DV)) (c : (Bool × Unit)) (h :
    cond ((a0_0 != a1_0)) (
      c = (false, ())) (
      cond (((((a0_1).length : Nat) : Int) != (((a1_1).length : Nat) : Int))) (
        c = (false, ())) (
        cond (((((a0_2).length : Nat) : Int) != (((a1_2).length : Nat) : Int))) (
          c = (false, ())) (
          H5 (0 : Int) a0_0 a0_1 a0_2 a1_0 a1_1 a1_2 c)))) : R a0_0 a0_1 a0_2 a1_0 a1_1 a1_2 = some c := start_rule (n := 400) (lv := lv) (noSum_ok _) (by kernel_rfl) h
theorem H5_step (x5 : Int) (b67 : Int) (b67_1 : List (List DV)) (b67_2 : List (List DV)) (b83 : Int) (b83_1 : List (List DV)) (b83_2 : List (List DV)) (c : (Bool × Unit)) (h :
    cond (decide ((x5 < (((b67_1).length : Nat) : Int)))) (
      needs ((0 : Int) ≤ x5) (
      optAll ((b67_1)[(Int.toNat x5)]?) fun (r0 : List DV) =>
      optAll ((dInt IntKind.i64 r0 0)) fun (z1 : Int) =>
      needs ((0 : Int) ≤ x5) (
      optAll ((b83_1)[(Int.toNat x5)]?) fun (r2 : List DV) =>
      optAll ((dInt IntKind.i64 r2 0)) fun (z3 : Int) =>
      cond ((z1 != z3)) (
        c = (false, ())) (
        H5 (IntKind.i64.wrap (x5 + (1 : Int))) b67 b67_1 b67_2 b83 b83_1 b83_2 c)))) (
      H10 (0 : Int) b67 b67_1 b67_2 b83 b83_1 b83_2 c)) : H5 x5 b67 b67_1 b67_2 b83 b83_1 b83_2 c := head_rule (n := 400) (noSum_ok _) (by kernel_rfl) h
theorem H10_step (x6 : Int) (b67 : Int) (b67_1 : List (List DV)) (b67_2 : List (List DV)) (b83 : Int) (b83_1 : List (List DV)) (b83_2 : List (List DV)) (c : (Bool × Unit)) (h :
    cond (decide ((x6 < (((b67_2).length : Nat) : Int)))) (
      needs ((0 : Int) ≤ x6) (
      optAll ((b67_2)[(Int.toNat x6)]?) fun (r4 : List DV) =>
      optAll ((dLst 2 r4 0)) fun (l5 : List (List DV)) =>
      needs ((0 : Int) ≤ x6) (
      optAll ((b83_2)[(Int.toNat x6)]?) fun (r6 : List DV) =>
      optAll ((dLst 2 r6 0)) fun (l7 : List (List DV)) =>
      optAll (ref11_wastes.R l5 l7) fun (c8 : (Bool × Unit)) =>
      cond ((!(c8).1)) (
        c = (false, ())) (
        H10 (IntKind.i64.wrap (x6 + (1 : Int))) b67 b67_1 b67_2 b83 b83_1 b83_2 c)))) (
      c = (true, ()))) : H10 x6 b67 b67_1 b67_2 b83 b83_1 b83_2 c := head_rule (n := 400) (noSum_ok _) (by kernel_rfl) h
end ref11_Same
/-! garrison/garrisonref07.Ints -/
namespace ref07_Ints
def lv : Live := [((5, 1048576), [0, 1, 5], [])]
abbrev H5 (x0 : List (List DV)) (x1 : List (List DV)) (x5 : Int) (c : (Bool × Unit)) : Prop := HeadAns cfg 17 sh lv (bd cfg 17 [1, 1, 0, 1, 0, 0]) 1048576 [.inBlock 0, .code (bd cfg 17 [1, 1, 1])]
  [(AV.d (DV.lst 1 x0)), (AV.d (DV.lst 1 x1)), (AV.d (DV.v (Value.int IntKind.i64 x5)))] [] 1048576 c
theorem start (a0 : List (List DV)) (a1 : List (List DV)) (c : (Bool × Unit)) (h :
    cond (((((a0).length : Nat) : Int) != (((a1).length : Nat) : Int))) (
      c = (false, ())) (
      H5 a0 a1 (0 : Int) c)) : R a0 a1 = some c := start_rule (n := 400) (lv := lv) (noSum_ok _) (by kernel_rfl) h
theorem H5_step (x0 : List (List DV)) (x1 : List (List DV)) (x5 : Int) (c : (Bool × Unit)) (h :
    cond (decide ((x5 < (((x0).length : Nat) : Int)))) (
      needs ((0 : Int) ≤ x5) (
      optAll ((x0)[(Int.toNat x5)]?) fun (r0 : List DV) =>
      optAll ((dInt IntKind.i64 r0 0)) fun (z1 : Int) =>
      needs ((0 : Int) ≤ x5) (
      optAll ((x1)[(Int.toNat x5)]?) fun (r2 : List DV) =>
      optAll ((dInt IntKind.i64 r2 0)) fun (z3 : Int) =>
      cond ((z1 != z3)) (
        c = (false, ())) (
        H5 x0 x1 (IntKind.i64.wrap (x5 + (1 : Int))) c)))) (
      c = (true, ()))) : H5 x0 x1 x5 c := head_rule (n := 400) (noSum_ok _) (by kernel_rfl) h
end ref07_Ints
/-! garrison/epoch.Check -/
namespace epoch_Check
def lv : Live := [((6, 1048576), [1, 33, 34, 35], [67])]
abbrev H6 (x33 : List (List DV)) (x34 : Int) (x35 : Int) (b67 : Int) (b67_1 : List (List DV)) (b67_2 : List (List DV)) (c : (Int × Unit)) : Prop := HeadAns cfg 19 sh lv (bd cfg 19 [1, 1, 1, 0, 1, 0, 0]) 1048576 [.inBlock 0, .code (bd cfg 19 [1, 1, 1, 1])]
  [(AV.ptr 67 0 0 0), (AV.d (DV.lst 1 x33)), (AV.d (DV.v (Value.int IntKind.i64 x34))), (AV.d (DV.v (Value.int IntKind.i64 x35)))] [(Option.some (VBlk.cell 3 0 [(AV.d (DV.v (Value.int IntKind.i64 b67))), (AV.d (DV.lst 1 b67_1)), (AV.d (DV.lst 1 b67_2))]))] 1048576 c
theorem start (a0_0 : Int) (a0_1 : List (List DV)) (a0_2 : List (List DV)) (c : (Int × Unit)) (h :
    cond (decide (((((a0_1).length : Nat) : Int) < (1 : Int)))) (
      c = ((2 : Int), ())) (
      cond (decide (((((a0_1).length : Nat) : Int) > (64 : Int)))) (
        c = ((2 : Int), ())) (
        cond (((((a0_2).length : Nat) : Int) != (((a0_1).length : Nat) : Int))) (
          c = ((2 : Int), ())) (
          cond (decide ((a0_0 < (1 : Int)))) (
            c = ((2 : Int), ())) (
            cond (decide ((a0_0 > (1099511627776 : Int)))) (
              c = ((2 : Int), ())) (
              H6 a0_1 (((a0_1).length : Nat) : Int) (0 : Int) a0_0 a0_1 a0_2 c)))))) : R a0_0 a0_1 a0_2 = some c := start_rule (n := 400) (lv := lv) (noSum_ok _) (by kernel_rfl) h
theorem H6_step (x33 : List (List DV)) (x34 : Int) (x35 : Int) (b67 : Int) (b67_1 : List (List DV)) (b67_2 : List (List DV)) (c : (Int × Unit)) (h :
    cond (decide ((x35 < x34))) (
      needs ((0 : Int) ≤ x35) (
      optAll ((x33)[(Int.toNat x35)]?) fun (r0 : List DV) =>
      optAll ((dInt IntKind.i64 r0 0)) fun (z1 : Int) =>
      cond ((z1 != (0 : Int))) (
        cond ((z1 != b67)) (
          cond (((IntKind.i64.wrap (z1 - (1 : Int))) != b67)) (
            c = ((2 : Int), ())) (
            needs ((0 : Int) ≤ x35) (
            optAll ((b67_2)[(Int.toNat x35)]?) fun (r2 : List DV) =>
            optAll ((dLst 2 r2 0)) fun (l3 : List (List DV)) =>
            optAll (epoch_isLimbo.R l3 b67) fun (c4 : (Bool × Unit)) =>
            cond ((!(c4).1)) (
              c = ((2 : Int), ())) (
              H6 x33 x34 (IntKind.i64.wrap (x35 + (1 : Int))) b67 b67_1 b67_2 c)))) (
          needs ((0 : Int) ≤ x35) (
          optAll ((b67_2)[(Int.toNat x35)]?) fun (r5 : List DV) =>
          optAll ((dLst 2 r5 0)) fun (l6 : List (List DV)) =>
          optAll (epoch_isLimbo.R l6 b67) fun (c7 : (Bool × Unit)) =>
          cond ((!(c7).1)) (
            c = ((2 : Int), ())) (
            H6 x33 x34 (IntKind.i64.wrap (x35 + (1 : Int))) b67 b67_1 b67_2 c)))) (
        needs ((0 : Int) ≤ x35) (
        optAll ((b67_2)[(Int.toNat x35)]?) fun (r8 : List DV) =>
        optAll ((dLst 2 r8 0)) fun (l9 : List (List DV)) =>
        optAll (epoch_isLimbo.R l9 b67) fun (c10 : (Bool × Unit)) =>
        cond ((!(c10).1)) (
          c = ((2 : Int), ())) (
          H6 x33 x34 (IntKind.i64.wrap (x35 + (1 : Int))) b67 b67_1 b67_2 c))))) (
      c = ((0 : Int), ()))) : H6 x33 x34 x35 b67 b67_1 b67_2 c := head_rule (n := 400) (noSum_ok _) (by kernel_rfl) h
end epoch_Check
/-! garrison/garrisonlaw11.num -/
namespace law11_num
def lv : Live := []
theorem start (a0 : Int) (c : (Int × Unit)) (h :
    c = (a0, ())) : R a0 = some c := start_rule (n := 400) (lv := lv) (noSum_ok _) (by kernel_rfl) h
end law11_num
/-! garrison/garrisonref11.Is -/
namespace ref11_Is
def lv : Live := [((5, 1048576), [1, 3], [135]), ((10, 2097152), [1, 3, 4], [135])]
abbrev H5 (x3 : Int) (b135 : Int) (b135_1 : List (List DV)) (b135_2 : List (List DV)) (c : (Bool × Unit)) : Prop := HeadAns cfg 20 sh lv (bd cfg 20 [1, 1, 0, 1, 0, 0]) 1048576 [.inBlock 0, .code (bd cfg 20 [1, 1, 1])]
  [(AV.ptr 135 0 0 0), (AV.d (DV.v (Value.int IntKind.i64 x3)))] [(Option.some (VBlk.cell 3 0 [(AV.d (DV.v (Value.int IntKind.i64 b135))), (AV.d (DV.lst 1 b135_1)), (AV.d (DV.lst 1 b135_2))]))] 1048576 c
abbrev H10 (x3 : Int) (x4 : Int) (b135 : Int) (b135_1 : List (List DV)) (b135_2 : List (List DV)) (c : (Bool × Unit)) : Prop := HeadAns cfg 20 sh lv (bd cfg 20 [1, 1, 0, 1, 0, 0, 1, 0, 0, 1, 1, 0, 0]) 2097152 [.inBlock 2, .inBlock 1, .code (bd cfg 20 [1, 1, 0, 1, 0, 0, 1, 1]), .inLoop (bd cfg 20 [1, 1, 0, 1, 0, 0]) 1048576, .inBlock 0, .code (bd cfg 20 [1, 1, 1])]
  [(AV.ptr 135 0 0 0), (AV.d (DV.v (Value.int IntKind.i64 x3))), (AV.d (DV.v (Value.int IntKind.i64 x4)))] [(Option.some (VBlk.cell 3 0 [(AV.d (DV.v (Value.int IntKind.i64 b135))), (AV.d (DV.lst 1 b135_1)), (AV.d (DV.lst 1 b135_2))]))] 2097152 c
theorem start (a0_0 : Int) (a0_1 : List (List DV)) (a0_2 : List (List DV)) (c : (Bool × Unit)) (h :
    cond (decide (((((a0_1).length : Nat) : Int) < (1 : Int)))) (
      c = (false, ())) (
      cond (decide (((((a0_1).length : Nat) : Int) > (64 : Int)))) (
        c = (false, ())) (
        cond (((((a0_2).length : Nat) : Int) != (((a0_1).length : Nat) : Int))) (
          c = (false, ())) (
          cond (decide ((a0_0 < (1 : Int)))) (
            c = (false, ())) (
            cond (decide ((a0_0 > (1099511627776 : Int)))) (
              c = (false, ())) (
              H5 (0 : Int) a0_0 a0_1 a0_2 c)))))) : R a0_0 a0_1 a0_2 = some c := start_rule (n := 400) (lv := lv) (noSum_ok _) (by kernel_rfl) h
theorem H5_step (x3 : Int) (b135 : Int) (b135_1 : List (List DV)) (b135_2 : List (List DV)) (c : (Bool × Unit)) (h :
    cond (decide ((x3 < (((b135_1).length : Nat) : Int)))) (
      needs ((0 : Int) ≤ x3) (
      optAll ((b135_1)[(Int.toNat x3)]?) fun (r0 : List DV) =>
      optAll ((dInt IntKind.i64 r0 0)) fun (z1 : Int) =>
      cond ((z1 != (0 : Int))) (
        needs ((0 : Int) ≤ x3) (
        optAll ((b135_1)[(Int.toNat x3)]?) fun (r2 : List DV) =>
        optAll ((dInt IntKind.i64 r2 0)) fun (z3 : Int) =>
        cond ((z3 != b135)) (
          needs ((0 : Int) ≤ x3) (
          optAll ((b135_1)[(Int.toNat x3)]?) fun (r4 : List DV) =>
          optAll ((dInt IntKind.i64 r4 0)) fun (z5 : Int) =>
          cond ((z5 != (IntKind.i64.wrap (b135 + (1 : Int))))) (
            c = (false, ())) (
            needs ((0 : Int) ≤ x3) (
            optAll ((b135_2)[(Int.toNat x3)]?) fun (r6 : List DV) =>
            optAll ((dLst 2 r6 0)) fun (l7 : List (List DV)) =>
            cond (decide (((((l7).length : Nat) : Int) > (8 : Int)))) (
              c = (false, ())) (
              H10 x3 (0 : Int) b135 b135_1 b135_2 c))))) (
          needs ((0 : Int) ≤ x3) (
          optAll ((b135_2)[(Int.toNat x3)]?) fun (r8 : List DV) =>
          optAll ((dLst 2 r8 0)) fun (l9 : List (List DV)) =>
          cond (decide (((((l9).length : Nat) : Int) > (8 : Int)))) (
            c = (false, ())) (
            H10 x3 (0 : Int) b135 b135_1 b135_2 c))))) (
        needs ((0 : Int) ≤ x3) (
        optAll ((b135_2)[(Int.toNat x3)]?) fun (r10 : List DV) =>
        optAll ((dLst 2 r10 0)) fun (l11 : List (List DV)) =>
        cond (decide (((((l11).length : Nat) : Int) > (8 : Int)))) (
          c = (false, ())) (
          H10 x3 (0 : Int) b135 b135_1 b135_2 c))))) (
      c = (true, ()))) : H5 x3 b135 b135_1 b135_2 c := head_rule (n := 400) (noSum_ok _) (by kernel_rfl) h
theorem H10_step (x3 : Int) (x4 : Int) (b135 : Int) (b135_1 : List (List DV)) (b135_2 : List (List DV)) (c : (Bool × Unit)) (h :
    needs ((0 : Int) ≤ x3) (
    optAll ((b135_2)[(Int.toNat x3)]?) fun (r12 : List DV) =>
    optAll ((dLst 2 r12 0)) fun (l13 : List (List DV)) =>
    cond (decide ((x4 < (((l13).length : Nat) : Int)))) (
      needs ((0 : Int) ≤ x3) (
      optAll ((b135_2)[(Int.toNat x3)]?) fun (r14 : List DV) =>
      optAll ((dLst 2 r14 0)) fun (l15 : List (List DV)) =>
      needs ((0 : Int) ≤ x4) (
      optAll ((l15)[(Int.toNat x4)]?) fun (r16 : List DV) =>
      optAll ((dInt IntKind.i64 r16 0)) fun (z17 : Int) =>
      optAll ((dInt IntKind.i64 r16 1)) fun (z18 : Int) =>
      cond (decide ((z17 < (0 : Int)))) (
        c = (false, ())) (
        cond (decide ((z17 ≥ (64 : Int)))) (
          c = (false, ())) (
          cond (decide ((z18 < (1 : Int)))) (
            c = (false, ())) (
            cond (decide ((z18 > b135))) (
              c = (false, ())) (
              cond (decide ((x4 > (0 : Int)))) (
                needs ((0 : Int) ≤ x3) (
                optAll ((b135_2)[(Int.toNat x3)]?) fun (r19 : List DV) =>
                optAll ((dLst 2 r19 0)) fun (l20 : List (List DV)) =>
                needs ((0 : Int) ≤ (IntKind.i64.wrap (x4 - (1 : Int)))) (
                optAll ((l20)[(Int.toNat (IntKind.i64.wrap (x4 - (1 : Int))))]?) fun (r21 : List DV) =>
                optAll ((dInt IntKind.i64 r21 1)) fun (z22 : Int) =>
                cond (decide ((z22 > z18))) (
                  c = (false, ())) (
                  H10 x3 (IntKind.i64.wrap (x4 + (1 : Int))) b135 b135_1 b135_2 c)))) (
                H10 x3 (IntKind.i64.wrap (x4 + (1 : Int))) b135 b135_1 b135_2 c)))))))) (
      H5 (IntKind.i64.wrap (x3 + (1 : Int))) b135 b135_1 b135_2 c))) : H10 x3 x4 b135 b135_1 b135_2 c := head_rule (n := 400) (noSum_ok _) (by kernel_rfl) h
end ref11_Is
/-! garrison/epoch.Same -/
namespace epoch_Same
def lv : Live := []
theorem start (a0_0 : Int) (a0_1 : List (List DV)) (a0_2 : List (List DV)) (a1_0 : Int) (a1_1 : List (List DV)) (a1_2 : List (List DV)) (c : (Bool × Unit)) (h :
    cond ((a0_0 == a1_0)) (
      optAll (slices_Equal_int64_int64.R a0_1 a1_1) fun (c0 : (Bool × Unit)) =>
      cond ((c0).1) (
        optAll (slices_EqualFunc_api_Waste_api_Waste_api_Waste_api_Waste__slices_Equal_api_Waste_api_Waste.R a0_2 a1_2) fun (c1 : (Bool × Unit)) =>
        c = ((c1).1, ())) (
        c = (false, ()))) (
      c = (false, ()))) : R a0_0 a0_1 a0_2 a1_0 a1_1 a1_2 = some c := start_rule (n := 400) (lv := lv) (noSum_ok _) (by kernel_rfl) h
end epoch_Same
/-! garrison/epoch.Retire -/
namespace epoch_Retire
def lv : Live := []
theorem start (a0_0 : Int) (a0_1 : List (List DV)) (a0_2 : List (List DV)) (a1 : Int) (a2 : Int) (c : ((Int × (List (List DV) × (List (List DV) × Unit))) × (Int × Unit))) (h :
    cond (decide ((a2 < (0 : Int)))) (
      c = ((a0_0, (a0_1, (a0_2, ()))), ((2 : Int), ()))) (
      cond (decide ((a2 ≥ (64 : Int)))) (
        c = ((a0_0, (a0_1, (a0_2, ()))), ((2 : Int), ()))) (
        optAll (epoch_has.R a0_0 a0_1 a0_2 a1) fun (c0 : (Bool × Unit)) =>
        cond ((!(c0).1)) (
          c = ((a0_0, (a0_1, (a0_2, ()))), ((2 : Int), ()))) (
          needs ((0 : Int) ≤ a1) (
          optAll ((a0_2)[(Int.toNat a1)]?) fun (r1 : List DV) =>
          optAll ((dLst 2 r1 0)) fun (l2 : List (List DV)) =>
          cond (decide (((((l2).length : Nat) : Int) ≥ (8 : Int)))) (
            c = ((a0_0, (a0_1, (a0_2, ()))), ((5 : Int), ()))) (
            needs ((0 : Int) ≤ a1) (
            optAll ((a0_2)[(Int.toNat a1)]?) fun (r3 : List DV) =>
            optAll ((dLst 2 r3 0)) fun (l4 : List (List DV)) =>
            needs ((((l4).length * 16) ≤ 140737488355328) ∧ (((l4).length * 2) ≤ 140737488355328)) (
            needs ((l4).length = (l4).length) (
            needs (((((l4 ++ (([[(DV.v (Value.int IntKind.i64 a2)), (DV.v (Value.int IntKind.i64 a0_0))]]).take (1)))).length * 16) ≤ 140737488355328) ∧ ((((l4 ++ (([[(DV.v (Value.int IntKind.i64 a2)), (DV.v (Value.int IntKind.i64 a0_0))]]).take (1)))).length * 2) ≤ 140737488355328)) (
            optAll (epoch_limbo.R a0_0 a0_1 a0_2 a1 (((l4 ++ (([[(DV.v (Value.int IntKind.i64 a2)), (DV.v (Value.int IntKind.i64 a0_0))]]).take (1)))).take (((l4 ++ (([[(DV.v (Value.int IntKind.i64 a2)), (DV.v (Value.int IntKind.i64 a0_0))]]).take (1)))).length))) fun (c5 : ((Int × (List (List DV) × (List (List DV) × Unit))) × Unit)) =>
            c = ((((c5).1).1, ((((c5).1).2).1, (((((c5).1).2).2).1, ()))), ((0 : Int), ())))))))))))) : R a0_0 a0_1 a0_2 a1 a2 = some c := start_rule (n := 400) (lv := lv) (noSum_ok _) (by kernel_rfl) h
end epoch_Retire
/-! garrison/epoch.Advance -/
namespace epoch_Advance
def lv : Live := []
theorem start (a0_0 : Int) (a0_1 : List (List DV)) (a0_2 : List (List DV)) (c : ((Int × (List (List DV) × (List (List DV) × Unit))) × (Bool × Unit))) (h :
    optAll (epoch_Check.R a0_0 a0_1 a0_2) fun (c0 : (Int × Unit)) =>
    cond (((c0).1 != (0 : Int))) (
      c = ((a0_0, (a0_1, (a0_2, ()))), (false, ()))) (
      cond ((a0_0 == (1099511627776 : Int))) (
        c = ((a0_0, (a0_1, (a0_2, ()))), (false, ()))) (
        optAll (slices_ContainsFunc_int64_int64__epoch_Advance_1.R a0_1 a0_0 a0_1 a0_2) fun (c1 : ((Bool × Unit) × Option ABlk)) =>
        needs ((c1).2 = (Option.some (ABlk.row 3 0 [[(AV.d (DV.v (Value.int IntKind.i64 a0_0))), (AV.d (DV.lst 1 a0_1)), (AV.d (DV.lst 1 a0_2))]]))) (
        cond (((c1).1).1) (
          c = ((a0_0, (a0_1, (a0_2, ()))), (false, ()))) (
          c = (((IntKind.i64.wrap (a0_0 + (1 : Int))), (a0_1, (a0_2, ()))), (true, ()))))))) : R a0_0 a0_1 a0_2 = some c := start_rule (n := 400) (lv := lv) (noSum_ok _) (by kernel_rfl) h
end epoch_Advance
/-! garrison/epoch.Reap -/
namespace epoch_Reap
def lv : Live := [((5, 1048576), [1, 2, 4, 6], [58, 74, 6])]
abbrev H5 (x1 : Int) (b6 : List (List DV)) (b58 : Int) (b58_1 : List (List DV)) (b58_2 : List (List DV)) (b74 : Int) (b74_1 : List (List DV)) (b74_2 : List (List DV)) (c : ((Int × (List (List DV) × (List (List DV) × Unit))) × (List (List DV) × Unit))) : Prop := HeadAns cfg 24 sh lv (bd cfg 24 [1, 0, 1, 1, 1, 0, 0, 0]) 1048576 [.inBlock 0, .code (bd cfg 24 [1, 0, 1, 1, 1, 1]), .inScope (bd cfg 24 [1, 0])]
  [(AV.d (DV.v (Value.int IntKind.i64 x1))), (AV.ptr 58 0 0 0), (AV.ptr 74 0 0 0), (AV.ref 6 0 0 (List.length b6))] [(Option.some (VBlk.cell 3 0 [(AV.d (DV.v (Value.int IntKind.i64 b58))), (AV.d (DV.lst 1 b58_1)), (AV.d (DV.lst 1 b58_2))])), (Option.some (VBlk.cell 3 0 [(AV.d (DV.v (Value.int IntKind.i64 b74))), (AV.d (DV.lst 1 b74_1)), (AV.d (DV.lst 1 b74_2))])), (Option.some (VBlk.drow 1 0 b6))] 1048576 c
theorem start (a0_0 : Int) (a0_1 : List (List DV)) (a0_2 : List (List DV)) (a1 : Int) (c : ((Int × (List (List DV) × (List (List DV) × Unit))) × (List (List DV) × Unit))) (h :
    optAll (epoch_has.R a0_0 a0_1 a0_2 a1) fun (c0 : (Bool × Unit)) =>
    cond ((!(c0).1)) (
      c = ((a0_0, (a0_1, (a0_2, ()))), ([], ()))) (
      H5 a1 [] a0_0 a0_1 a0_2 (0 : Int) [] [] c)) : R a0_0 a0_1 a0_2 a1 = some c := start_rule (n := 400) (lv := lv) (noSum_ok _) (by kernel_rfl) h
theorem H5_step (x1 : Int) (b6 : List (List DV)) (b58 : Int) (b58_1 : List (List DV)) (b58_2 : List (List DV)) (b74 : Int) (b74_1 : List (List DV)) (b74_2 : List (List DV)) (c : ((Int × (List (List DV) × (List (List DV) × Unit))) × (List (List DV) × Unit))) (h :
    needs ((0 : Int) ≤ x1) (
    optAll ((b58_2)[(Int.toNat x1)]?) fun (r1 : List DV) =>
    optAll ((dLst 2 r1 0)) fun (l2 : List (List DV)) =>
    cond (((((b6).length : Nat) : Int) == (((l2).length : Nat) : Int))) (
      needs ((0 : Int) ≤ x1) (
      optAll ((b58_2)[(Int.toNat x1)]?) fun (r3 : List DV) =>
      optAll ((dLst 2 r3 0)) fun (l4 : List (List DV)) =>
      needs (((0 : Int) ≤ (((b6).length : Nat) : Int)) ∧ (((((b6).length : Nat) : Int) ≤ (((l4).length : Nat) : Int)) ∧ ((((l4).length : Nat) : Int) ≤ (((l4).length : Nat) : Int)))) (
      needs ((((((((l4).take ((Int.toNat (((l4).length : Nat) : Int))))).drop ((Int.toNat (((b6).length : Nat) : Int))))).length * 16) ≤ 140737488355328) ∧ (((((((l4).take ((Int.toNat (((l4).length : Nat) : Int))))).drop ((Int.toNat (((b6).length : Nat) : Int))))).length * 2) ≤ 140737488355328)) (
      optAll (epoch_limbo.R b58 b58_1 b58_2 x1 ((((((l4).take ((Int.toNat (((l4).length : Nat) : Int))))).drop ((Int.toNat (((b6).length : Nat) : Int))))).take ((((((l4).take ((Int.toNat (((l4).length : Nat) : Int))))).drop ((Int.toNat (((b6).length : Nat) : Int))))).length))) fun (c5 : ((Int × (List (List DV) × (List (List DV) × Unit))) × Unit)) =>
      c = ((((c5).1).1, ((((c5).1).2).1, (((((c5).1).2).2).1, ()))), (((b6).take ((b6).length)), ())))))) (
      optAll ((l2)[(Int.toNat (((b6).length : Nat) : Int))]?) fun (r6 : List DV) =>
      optAll ((dInt IntKind.i64 r6 1)) fun (z7 : Int) =>
      cond (decide ((z7 > (IntKind.i64.wrap (b58 - (2 : Int)))))) (
        needs ((0 : Int) ≤ x1) (
        optAll ((b58_2)[(Int.toNat x1)]?) fun (r8 : List DV) =>
        optAll ((dLst 2 r8 0)) fun (l9 : List (List DV)) =>
        needs (((0 : Int) ≤ (((b6).length : Nat) : Int)) ∧ (((((b6).length : Nat) : Int) ≤ (((l9).length : Nat) : Int)) ∧ ((((l9).length : Nat) : Int) ≤ (((l9).length : Nat) : Int)))) (
        needs ((((((((l9).take ((Int.toNat (((l9).length : Nat) : Int))))).drop ((Int.toNat (((b6).length : Nat) : Int))))).length * 16) ≤ 140737488355328) ∧ (((((((l9).take ((Int.toNat (((l9).length : Nat) : Int))))).drop ((Int.toNat (((b6).length : Nat) : Int))))).length * 2) ≤ 140737488355328)) (
        optAll (epoch_limbo.R b58 b58_1 b58_2 x1 ((((((l9).take ((Int.toNat (((l9).length : Nat) : Int))))).drop ((Int.toNat (((b6).length : Nat) : Int))))).take ((((((l9).take ((Int.toNat (((l9).length : Nat) : Int))))).drop ((Int.toNat (((b6).length : Nat) : Int))))).length))) fun (c10 : ((Int × (List (List DV) × (List (List DV) × Unit))) × Unit)) =>
        c = ((((c10).1).1, ((((c10).1).2).1, (((((c10).1).2).2).1, ()))), (((b6).take ((b6).length)), ())))))) (
        optAll ((l2)[(Int.toNat (((b6).length : Nat) : Int))]?) fun (r11 : List DV) =>
        optAll ((dInt IntKind.i64 r11 0)) fun (z12 : Int) =>
        needs ((b6).length = (b6).length) (
        needs (((((b6 ++ (([[(DV.v (Value.int IntKind.i64 z12))]]).take (1)))).length * 8) ≤ 140737488355328) ∧ ((((b6 ++ (([[(DV.v (Value.int IntKind.i64 z12))]]).take (1)))).length * 1) ≤ 140737488355328)) (
        H5 x1 (b6 ++ (([[(DV.v (Value.int IntKind.i64 z12))]]).take (1))) b58 b58_1 b58_2 b74 b74_1 b74_2 c)))))) : H5 x1 b6 b58 b58_1 b58_2 b74 b74_1 b74_2 c := head_rule (n := 400) (noSum_ok _) (by kernel_rfl) h
end epoch_Reap
/-! garrison/epoch.Pin -/
namespace epoch_Pin
def lv : Live := []
theorem start (a0_0 : Int) (a0_1 : List (List DV)) (a0_2 : List (List DV)) (a1 : Int) (c : ((Int × (List (List DV) × (List (List DV) × Unit))) × (Int × Unit))) (h :
    optAll (epoch_has.R a0_0 a0_1 a0_2 a1) fun (c0 : (Bool × Unit)) =>
    cond ((!(c0).1)) (
      c = ((a0_0, (a0_1, (a0_2, ()))), ((2 : Int), ()))) (
      needs ((0 : Int) ≤ a1) (
      optAll ((a0_1)[(Int.toNat a1)]?) fun (r1 : List DV) =>
      optAll ((dInt IntKind.i64 r1 0)) fun (z2 : Int) =>
      cond ((z2 != (0 : Int))) (
        c = ((a0_0, (a0_1, (a0_2, ()))), ((8 : Int), ()))) (
        optAll (epoch_pin.R a0_0 a0_1 a0_2 a1 (IntKind.i64.wrap (a0_0 + (1 : Int)))) fun (c3 : ((Int × (List (List DV) × (List (List DV) × Unit))) × Unit)) =>
        c = ((((c3).1).1, ((((c3).1).2).1, (((((c3).1).2).2).1, ()))), ((0 : Int), ())))))) : R a0_0 a0_1 a0_2 a1 = some c := start_rule (n := 400) (lv := lv) (noSum_ok _) (by kernel_rfl) h
end epoch_Pin
/-! garrison/epoch.Unpin -/
namespace epoch_Unpin
def lv : Live := []
theorem start (a0_0 : Int) (a0_1 : List (List DV)) (a0_2 : List (List DV)) (a1 : Int) (c : ((Int × (List (List DV) × (List (List DV) × Unit))) × (Int × Unit))) (h :
    optAll (epoch_has.R a0_0 a0_1 a0_2 a1) fun (c0 : (Bool × Unit)) =>
    cond ((!(c0).1)) (
      c = ((a0_0, (a0_1, (a0_2, ()))), ((2 : Int), ()))) (
      needs ((0 : Int) ≤ a1) (
      optAll ((a0_1)[(Int.toNat a1)]?) fun (r1 : List DV) =>
      optAll ((dInt IntKind.i64 r1 0)) fun (z2 : Int) =>
      cond ((z2 == (0 : Int))) (
        c = ((a0_0, (a0_1, (a0_2, ()))), ((7 : Int), ()))) (
        optAll (epoch_pin.R a0_0 a0_1 a0_2 a1 (0 : Int)) fun (c3 : ((Int × (List (List DV) × (List (List DV) × Unit))) × Unit)) =>
        c = ((((c3).1).1, ((((c3).1).2).1, (((((c3).1).2).2).1, ()))), ((0 : Int), ())))))) : R a0_0 a0_1 a0_2 a1 = some c := start_rule (n := 400) (lv := lv) (noSum_ok _) (by kernel_rfl) h
end epoch_Unpin
/-! garrison/garrisonref11.Pin -/
namespace ref11_Pin
def lv : Live := []
theorem start (a0_0 : Int) (a0_1 : List (List DV)) (a0_2 : List (List DV)) (a1 : Int) (c : ((Int × (List (List DV) × (List (List DV) × Unit))) × (Int × Unit))) (h :
    optAll (ref11_core.R a0_0 a0_1 a0_2 a1) fun (c0 : (Bool × Unit)) =>
    cond ((!(c0).1)) (
      c = ((a0_0, (a0_1, (a0_2, ()))), ((2 : Int), ()))) (
      needs ((0 : Int) ≤ a1) (
      optAll ((a0_1)[(Int.toNat a1)]?) fun (r1 : List DV) =>
      optAll ((dInt IntKind.i64 r1 0)) fun (z2 : Int) =>
      cond ((z2 != (0 : Int))) (
        c = ((a0_0, (a0_1, (a0_2, ()))), ((8 : Int), ()))) (
        optAll (ref11_pin.R a0_0 a0_1 a0_2 a1 (IntKind.i64.wrap (a0_0 + (1 : Int)))) fun (c3 : ((Int × (List (List DV) × (List (List DV) × Unit))) × Unit)) =>
        c = ((((c3).1).1, ((((c3).1).2).1, (((((c3).1).2).2).1, ()))), ((0 : Int), ())))))) : R a0_0 a0_1 a0_2 a1 = some c := start_rule (n := 400) (lv := lv) (noSum_ok _) (by kernel_rfl) h
end ref11_Pin
/-! garrison/garrisonref11.Unpin -/
namespace ref11_Unpin
def lv : Live := []
theorem start (a0_0 : Int) (a0_1 : List (List DV)) (a0_2 : List (List DV)) (a1 : Int) (c : ((Int × (List (List DV) × (List (List DV) × Unit))) × (Int × Unit))) (h :
    optAll (ref11_core.R a0_0 a0_1 a0_2 a1) fun (c0 : (Bool × Unit)) =>
    cond ((!(c0).1)) (
      c = ((a0_0, (a0_1, (a0_2, ()))), ((2 : Int), ()))) (
      needs ((0 : Int) ≤ a1) (
      optAll ((a0_1)[(Int.toNat a1)]?) fun (r1 : List DV) =>
      optAll ((dInt IntKind.i64 r1 0)) fun (z2 : Int) =>
      cond ((z2 == (0 : Int))) (
        c = ((a0_0, (a0_1, (a0_2, ()))), ((7 : Int), ()))) (
        optAll (ref11_pin.R a0_0 a0_1 a0_2 a1 (0 : Int)) fun (c3 : ((Int × (List (List DV) × (List (List DV) × Unit))) × Unit)) =>
        c = ((((c3).1).1, ((((c3).1).2).1, (((((c3).1).2).2).1, ()))), ((0 : Int), ())))))) : R a0_0 a0_1 a0_2 a1 = some c := start_rule (n := 400) (lv := lv) (noSum_ok _) (by kernel_rfl) h
end ref11_Unpin
/-! garrison/garrisonref11.Retire -/
namespace ref11_Retire
def lv : Live := []
theorem start (a0_0 : Int) (a0_1 : List (List DV)) (a0_2 : List (List DV)) (a1 : Int) (a2 : Int) (c : ((Int × (List (List DV) × (List (List DV) × Unit))) × (Int × Unit))) (h :
    optAll (ref11_core.R a0_0 a0_1 a0_2 a1) fun (c0 : (Bool × Unit)) =>
    cond ((!(c0).1)) (
      c = ((a0_0, (a0_1, (a0_2, ()))), ((2 : Int), ()))) (
      cond (decide ((a2 < (0 : Int)))) (
        c = ((a0_0, (a0_1, (a0_2, ()))), ((2 : Int), ()))) (
        cond (decide ((a2 ≥ (64 : Int)))) (
          c = ((a0_0, (a0_1, (a0_2, ()))), ((2 : Int), ()))) (
          needs ((0 : Int) ≤ a1) (
          optAll ((a0_2)[(Int.toNat a1)]?) fun (r1 : List DV) =>
          optAll ((dLst 2 r1 0)) fun (l2 : List (List DV)) =>
          cond (decide (((((l2).length : Nat) : Int) ≥ (8 : Int)))) (
            c = ((a0_0, (a0_1, (a0_2, ()))), ((5 : Int), ()))) (
            needs ((0 : Int) ≤ a1) (
            optAll ((a0_2)[(Int.toNat a1)]?) fun (r3 : List DV) =>
            optAll ((dLst 2 r3 0)) fun (l4 : List (List DV)) =>
            needs ((((l4).length * 16) ≤ 140737488355328) ∧ (((l4).length * 2) ≤ 140737488355328)) (
            needs ((l4).length = (l4).length) (
            needs (((((l4 ++ (([[(DV.v (Value.int IntKind.i64 a2)), (DV.v (Value.int IntKind.i64 a0_0))]]).take (1)))).length * 16) ≤ 140737488355328) ∧ ((((l4 ++ (([[(DV.v (Value.int IntKind.i64 a2)), (DV.v (Value.int IntKind.i64 a0_0))]]).take (1)))).length * 2) ≤ 140737488355328)) (
            optAll (ref11_limbo.R a0_0 a0_1 a0_2 a1 (((l4 ++ (([[(DV.v (Value.int IntKind.i64 a2)), (DV.v (Value.int IntKind.i64 a0_0))]]).take (1)))).take (((l4 ++ (([[(DV.v (Value.int IntKind.i64 a2)), (DV.v (Value.int IntKind.i64 a0_0))]]).take (1)))).length))) fun (c5 : ((Int × (List (List DV) × (List (List DV) × Unit))) × Unit)) =>
            c = ((((c5).1).1, ((((c5).1).2).1, (((((c5).1).2).2).1, ()))), ((0 : Int), ())))))))))))) : R a0_0 a0_1 a0_2 a1 a2 = some c := start_rule (n := 400) (lv := lv) (noSum_ok _) (by kernel_rfl) h
end ref11_Retire
/-! garrison/garrisonref11.Advance -/
namespace ref11_Advance
def lv : Live := [((5, 1048576), [1, 2, 4], [44, 60])]
abbrev H5 (x4 : Int) (b44 : Int) (b44_1 : List (List DV)) (b44_2 : List (List DV)) (b60 : Int) (b60_1 : List (List DV)) (b60_2 : List (List DV)) (c : ((Int × (List (List DV) × (List (List DV) × Unit))) × (Bool × Unit))) : Prop := HeadAns cfg 30 sh lv (bd cfg 30 [1, 1, 0, 1, 0, 0]) 1048576 [.inBlock 0, .code (bd cfg 30 [1, 1, 1])]
  [(AV.ptr 44 0 0 0), (AV.ptr 60 0 0 0), (AV.d (DV.v (Value.int IntKind.i64 x4)))] [(Option.some (VBlk.cell 3 0 [(AV.d (DV.v (Value.int IntKind.i64 b44))), (AV.d (DV.lst 1 b44_1)), (AV.d (DV.lst 1 b44_2))])), (Option.some (VBlk.cell 3 0 [(AV.d (DV.v (Value.int IntKind.i64 b60))), (AV.d (DV.lst 1 b60_1)), (AV.d (DV.lst 1 b60_2))]))] 1048576 c
theorem start (a0_0 : Int) (a0_1 : List (List DV)) (a0_2 : List (List DV)) (c : ((Int × (List (List DV) × (List (List DV) × Unit))) × (Bool × Unit))) (h :
    optAll (ref11_Is.R a0_0 a0_1 a0_2) fun (c0 : (Bool × Unit)) =>
    cond ((!(c0).1)) (
      c = ((a0_0, (a0_1, (a0_2, ()))), (false, ()))) (
      cond (decide ((a0_0 ≥ (1099511627776 : Int)))) (
        c = ((a0_0, (a0_1, (a0_2, ()))), (false, ()))) (
        H5 (0 : Int) a0_0 a0_1 a0_2 (0 : Int) [] [] c))) : R a0_0 a0_1 a0_2 = some c := start_rule (n := 400) (lv := lv) (noSum_ok _) (by kernel_rfl) h
theorem H5_step (x4 : Int) (b44 : Int) (b44_1 : List (List DV)) (b44_2 : List (List DV)) (b60 : Int) (b60_1 : List (List DV)) (b60_2 : List (List DV)) (c : ((Int × (List (List DV) × (List (List DV) × Unit))) × (Bool × Unit))) (h :
    cond (decide ((x4 < (((b44_1).length : Nat) : Int)))) (
      needs ((0 : Int) ≤ x4) (
      optAll ((b44_1)[(Int.toNat x4)]?) fun (r1 : List DV) =>
      optAll ((dInt IntKind.i64 r1 0)) fun (z2 : Int) =>
      cond ((z2 != (0 : Int))) (
        needs ((0 : Int) ≤ x4) (
        optAll ((b44_1)[(Int.toNat x4)]?) fun (r3 : List DV) =>
        optAll ((dInt IntKind.i64 r3 0)) fun (z4 : Int) =>
        cond ((z4 != (IntKind.i64.wrap (b44 + (1 : Int))))) (
          c = ((b44, (b44_1, (b44_2, ()))), (false, ()))) (
          H5 (IntKind.i64.wrap (x4 + (1 : Int))) b44 b44_1 b44_2 b60 b60_1 b60_2 c))) (
        H5 (IntKind.i64.wrap (x4 + (1 : Int))) b44 b44_1 b44_2 b60 b60_1 b60_2 c))) (
      c = (((IntKind.i64.wrap (b44 + (1 : Int))), (b44_1, (b44_2, ()))), (true, ())))) : H5 x4 b44 b44_1 b44_2 b60 b60_1 b60_2 c := head_rule (n := 400) (noSum_ok _) (by kernel_rfl) h
end ref11_Advance
/-! garrison/garrisonref11.Reap -/
namespace ref11_Reap
def lv : Live := [((7, 1048576), [1, 2, 4, 6, 7, 8], [65, 81, 6, 7])]
abbrev H7 (x1 : Int) (b6 : List (List DV)) (b7 : List (List DV)) (x8 : Int) (b65 : Int) (b65_1 : List (List DV)) (b65_2 : List (List DV)) (b81 : Int) (b81_1 : List (List DV)) (b81_2 : List (List DV)) (c : ((Int × (List (List DV) × (List (List DV) × Unit))) × (List (List DV) × Unit))) : Prop := HeadAns cfg 31 sh lv (bd cfg 31 [1, 1, 1, 1, 0, 1, 0, 0]) 1048576 [.inBlock 0, .code (bd cfg 31 [1, 1, 1, 1, 1])]
  [(AV.d (DV.v (Value.int IntKind.i64 x1))), (AV.ptr 65 0 0 0), (AV.ptr 81 0 0 0), (AV.ref 6 0 0 (List.length b6)), (AV.ref 7 0 0 (List.length b7)), (AV.d (DV.v (Value.int IntKind.i64 x8)))] [(Option.some (VBlk.cell 3 0 [(AV.d (DV.v (Value.int IntKind.i64 b65))), (AV.d (DV.lst 1 b65_1)), (AV.d (DV.lst 1 b65_2))])), (Option.some (VBlk.cell 3 0 [(AV.d (DV.v (Value.int IntKind.i64 b81))), (AV.d (DV.lst 1 b81_1)), (AV.d (DV.lst 1 b81_2))])), (Option.some (VBlk.drow 1 0 b6)), (Option.some (VBlk.drow 2 0 b7))] 1048576 c
theorem start (a0_0 : Int) (a0_1 : List (List DV)) (a0_2 : List (List DV)) (a1 : Int) (c : ((Int × (List (List DV) × (List (List DV) × Unit))) × (List (List DV) × Unit))) (h :
    optAll (ref11_core.R a0_0 a0_1 a0_2 a1) fun (c0 : (Bool × Unit)) =>
    cond ((!(c0).1)) (
      c = ((a0_0, (a0_1, (a0_2, ()))), ([], ()))) (
      H7 a1 [] [] (0 : Int) a0_0 a0_1 a0_2 (0 : Int) [] [] c)) : R a0_0 a0_1 a0_2 a1 = some c := start_rule (n := 400) (lv := lv) (noSum_ok _) (by kernel_rfl) h
theorem H7_step (x1 : Int) (b6 : List (List DV)) (b7 : List (List DV)) (x8 : Int) (b65 : Int) (b65_1 : List (List DV)) (b65_2 : List (List DV)) (b81 : Int) (b81_1 : List (List DV)) (b81_2 : List (List DV)) (c : ((Int × (List (List DV) × (List (List DV) × Unit))) × (List (List DV) × Unit))) (h :
    needs ((0 : Int) ≤ x1) (
    optAll ((b65_2)[(Int.toNat x1)]?) fun (r1 : List DV) =>
    optAll ((dLst 2 r1 0)) fun (l2 : List (List DV)) =>
    cond (decide ((x8 < (((l2).length : Nat) : Int)))) (
      needs ((0 : Int) ≤ x1) (
      optAll ((b65_2)[(Int.toNat x1)]?) fun (r3 : List DV) =>
      optAll ((dLst 2 r3 0)) fun (l4 : List (List DV)) =>
      needs ((0 : Int) ≤ x8) (
      optAll ((l4)[(Int.toNat x8)]?) fun (r5 : List DV) =>
      optAll ((dInt IntKind.i64 r5 1)) fun (z6 : Int) =>
      cond (decide ((z6 ≤ (IntKind.i64.wrap (b65 - (2 : Int)))))) (
        needs ((0 : Int) ≤ x1) (
        optAll ((b65_2)[(Int.toNat x1)]?) fun (r7 : List DV) =>
        optAll ((dLst 2 r7 0)) fun (l8 : List (List DV)) =>
        needs ((0 : Int) ≤ x8) (
        optAll ((l8)[(Int.toNat x8)]?) fun (r9 : List DV) =>
        optAll ((dInt IntKind.i64 r9 0)) fun (z10 : Int) =>
        needs ((b6).length = (b6).length) (
        needs (((((b6 ++ (([[(DV.v (Value.int IntKind.i64 z10))]]).take (1)))).length * 8) ≤ 140737488355328) ∧ ((((b6 ++ (([[(DV.v (Value.int IntKind.i64 z10))]]).take (1)))).length * 1) ≤ 140737488355328)) (
        H7 x1 (b6 ++ (([[(DV.v (Value.int IntKind.i64 z10))]]).take (1))) b7 (IntKind.i64.wrap (x8 + (1 : Int))) b65 b65_1 b65_2 b81 b81_1 b81_2 c))))) (
        needs ((0 : Int) ≤ x1) (
        optAll ((b65_2)[(Int.toNat x1)]?) fun (r11 : List DV) =>
        optAll ((dLst 2 r11 0)) fun (l12 : List (List DV)) =>
        needs ((0 : Int) ≤ x8) (
        optAll ((l12)[(Int.toNat x8)]?) fun (r13 : List DV) =>
        optAll ((dInt IntKind.i64 r13 0)) fun (z14 : Int) =>
        optAll ((dInt IntKind.i64 r13 1)) fun (z15 : Int) =>
        needs ((b7).length = (b7).length) (
        needs (((((b7 ++ (([[(DV.v (Value.int IntKind.i64 z14)), (DV.v (Value.int IntKind.i64 z15))]]).take (1)))).length * 16) ≤ 140737488355328) ∧ ((((b7 ++ (([[(DV.v (Value.int IntKind.i64 z14)), (DV.v (Value.int IntKind.i64 z15))]]).take (1)))).length * 2) ≤ 140737488355328)) (
        H7 x1 b6 (b7 ++ (([[(DV.v (Value.int IntKind.i64 z14)), (DV.v (Value.int IntKind.i64 z15))]]).take (1))) (IntKind.i64.wrap (x8 + (1 : Int))) b65 b65_1 b65_2 b81 b81_1 b81_2 c)))))))) (
      optAll (ref11_limbo.R b65 b65_1 b65_2 x1 ((b7).take ((b7).length))) fun (c16 : ((Int × (List (List DV) × (List (List DV) × Unit))) × Unit)) =>
      c = ((((c16).1).1, ((((c16).1).2).1, (((((c16).1).2).2).1, ()))), (((b6).take ((b6).length)), ()))))) : H7 x1 b6 b7 x8 b65 b65_1 b65_2 b81 b81_1 b81_2 c := head_rule (n := 400) (noSum_ok _) (by kernel_rfl) h
end ref11_Reap
/-! garrison/garrisonref11.wastes -/
namespace ref11_wastes
def lv : Live := [((5, 1048576), [0, 1, 5], [])]
abbrev H5 (x0 : List (List DV)) (x1 : List (List DV)) (x5 : Int) (c : (Bool × Unit)) : Prop := HeadAns cfg 32 sh lv (bd cfg 32 [1, 1, 0, 1, 0, 0]) 1048576 [.inBlock 0, .code (bd cfg 32 [1, 1, 1])]
  [(AV.d (DV.lst 2 x0)), (AV.d (DV.lst 2 x1)), (AV.d (DV.v (Value.int IntKind.i64 x5)))] [] 1048576 c
theorem start (a0 : List (List DV)) (a1 : List (List DV)) (c : (Bool × Unit)) (h :
    cond (((((a0).length : Nat) : Int) != (((a1).length : Nat) : Int))) (
      c = (false, ())) (
      H5 a0 a1 (0 : Int) c)) : R a0 a1 = some c := start_rule (n := 400) (lv := lv) (noSum_ok _) (by kernel_rfl) h
theorem H5_step (x0 : List (List DV)) (x1 : List (List DV)) (x5 : Int) (c : (Bool × Unit)) (h :
    cond (decide ((x5 < (((x0).length : Nat) : Int)))) (
      needs ((0 : Int) ≤ x5) (
      optAll ((x0)[(Int.toNat x5)]?) fun (r0 : List DV) =>
      optAll ((dInt IntKind.i64 r0 0)) fun (z1 : Int) =>
      optAll ((dInt IntKind.i64 r0 1)) fun (z2 : Int) =>
      needs ((0 : Int) ≤ x5) (
      optAll ((x1)[(Int.toNat x5)]?) fun (r3 : List DV) =>
      optAll ((dInt IntKind.i64 r3 0)) fun (z4 : Int) =>
      optAll ((dInt IntKind.i64 r3 1)) fun (z5 : Int) =>
      cond ((!((z1 == z4) && ((z2 == z5) && true)))) (
        c = (false, ())) (
        H5 x0 x1 (IntKind.i64.wrap (x5 + (1 : Int))) c)))) (
      c = (true, ()))) : H5 x0 x1 x5 c := head_rule (n := 400) (noSum_ok _) (by kernel_rfl) h
end ref11_wastes
/-! garrison/epoch.isLimbo -/
namespace epoch_isLimbo
def lv : Live := [((4, 1048576), [0, 1, 5, 8, 9, 10], [])]
abbrev H4 (x0 : List (List DV)) (x1 : Int) (x5 : Int) (x8 : List (List DV)) (x9 : Int) (x10 : Int) (c : (Bool × Unit)) : Prop := HeadAns cfg 33 sh lv (bd cfg 33 [1, 1, 0, 1, 0, 0]) 1048576 [.inBlock 0, .code (bd cfg 33 [1, 1, 1])]
  [(AV.d (DV.lst 2 x0)), (AV.d (DV.v (Value.int IntKind.i64 x1))), (AV.d (DV.v (Value.int IntKind.i64 x5))), (AV.d (DV.lst 2 x8)), (AV.d (DV.v (Value.int IntKind.i64 x9))), (AV.d (DV.v (Value.int IntKind.i64 x10)))] [] 1048576 c
theorem start (a0 : List (List DV)) (a1 : Int) (c : (Bool × Unit)) (h :
    H4 a0 a1 (1 : Int) a0 (((a0).length : Nat) : Int) (0 : Int) c) : R a0 a1 = some c := start_rule (n := 400) (lv := lv) (noSum_ok _) (by kernel_rfl) h
theorem H4_step (x0 : List (List DV)) (x1 : Int) (x5 : Int) (x8 : List (List DV)) (x9 : Int) (x10 : Int) (c : (Bool × Unit)) (h :
    cond (decide ((x10 < x9))) (
      needs ((0 : Int) ≤ x10) (
      optAll ((x8)[(Int.toNat x10)]?) fun (r0 : List DV) =>
      optAll ((dInt IntKind.i64 r0 0)) fun (z1 : Int) =>
      optAll ((dInt IntKind.i64 r0 1)) fun (z2 : Int) =>
      cond (decide ((z1 < (0 : Int)))) (
        c = (false, ())) (
        cond (decide ((z1 ≥ (64 : Int)))) (
          c = (false, ())) (
          cond (decide ((z2 < x5))) (
            c = (false, ())) (
            cond (decide ((z2 > x1))) (
              c = (false, ())) (
              H4 x0 x1 z2 x8 x9 (IntKind.i64.wrap (x10 + (1 : Int))) c)))))) (
      c = (decide (((((x0).length : Nat) : Int) ≤ (8 : Int))), ()))) : H4 x0 x1 x5 x8 x9 x10 c := head_rule (n := 400) (noSum_ok _) (by kernel_rfl) h
end epoch_isLimbo
/-! slices.Equal[[]int64,int64] -/
namespace slices_Equal_int64_int64
def lv : Live := [((5, 1048576), [0, 1, 12, 13], [])]
abbrev H5 (x0 : List (List DV)) (x1 : List (List DV)) (x12 : Int) (x13 : Int) (c : (Bool × Unit)) : Prop := HeadAns cfg 34 sh lv (bd cfg 34 [1, 1, 0, 1, 0, 0]) 1048576 [.inBlock 0, .code (bd cfg 34 [1, 1, 1])]
  [(AV.d (DV.lst 1 x0)), (AV.d (DV.lst 1 x1)), (AV.d (DV.v (Value.int IntKind.i64 x12))), (AV.d (DV.v (Value.int IntKind.i64 x13)))] [] 1048576 c
theorem start (a0 : List (List DV)) (a1 : List (List DV)) (c : (Bool × Unit)) (h :
    cond (((((a0).length : Nat) : Int) != (((a1).length : Nat) : Int))) (
      c = (false, ())) (
      H5 a0 a1 (((a0).length : Nat) : Int) (0 : Int) c)) : R a0 a1 = some c := start_rule (n := 400) (lv := lv) (noSum_ok _) (by kernel_rfl) h
theorem H5_step (x0 : List (List DV)) (x1 : List (List DV)) (x12 : Int) (x13 : Int) (c : (Bool × Unit)) (h :
    cond (decide ((x13 < x12))) (
      needs ((0 : Int) ≤ x13) (
      optAll ((x0)[(Int.toNat x13)]?) fun (r0 : List DV) =>
      optAll ((dInt IntKind.i64 r0 0)) fun (z1 : Int) =>
      needs ((0 : Int) ≤ x13) (
      optAll ((x1)[(Int.toNat x13)]?) fun (r2 : List DV) =>
      optAll ((dInt IntKind.i64 r2 0)) fun (z3 : Int) =>
      cond ((z1 != z3)) (
        c = (false, ())) (
        H5 x0 x1 x12 (IntKind.i64.wrap (x13 + (1 : Int))) c)))) (
      c = (true, ()))) : H5 x0 x1 x12 x13 c := head_rule (n := 400) (noSum_ok _) (by kernel_rfl) h
end slices_Equal_int64_int64
/-! slices.EqualFunc[[][]garrison/api.Waste,[][]garrison/api.Waste,[]garrison/api.Waste,[]garrison/api.Waste] -/
namespace slices_EqualFunc_api_Waste_api_Waste_api_Waste_api_Waste__slices_Equal_api_Waste_api_Waste
def lv : Live := [((5, 1048576), [1, 2, 15, 16, 17], [])]
abbrev H5 (x1 : List (List DV)) (x15 : List (List DV)) (x16 : Int) (x17 : Int) (c : (Bool × Unit)) : Prop := HeadAns cfg 35 sh lv (bd cfg 35 [1, 1, 0, 1, 0, 0]) 1048576 [.inBlock 0, .code (bd cfg 35 [1, 1, 1])]
  [(AV.d (DV.lst 1 x1)), (AV.d (DV.fn 36 [])), (AV.d (DV.lst 1 x15)), (AV.d (DV.v (Value.int IntKind.i64 x16))), (AV.d (DV.v (Value.int IntKind.i64 x17)))] [] 1048576 c
theorem start (a0 : List (List DV)) (a1 : List (List DV)) (c : (Bool × Unit)) (h :
    cond (((((a0).length : Nat) : Int) != (((a1).length : Nat) : Int))) (
      c = (false, ())) (
      H5 a1 a0 (((a0).length : Nat) : Int) (0 : Int) c)) : R a0 a1 = some c := start_rule (n := 400) (lv := lv) (noSum_ok _) (by kernel_rfl) h
theorem H5_step (x1 : List (List DV)) (x15 : List (List DV)) (x16 : Int) (x17 : Int) (c : (Bool × Unit)) (h :
    cond (decide ((x17 < x16))) (
      needs ((0 : Int) ≤ x17) (
      optAll ((x15)[(Int.toNat x17)]?) fun (r0 : List DV) =>
      optAll ((dLst 2 r0 0)) fun (l1 : List (List DV)) =>
      needs ((0 : Int) ≤ x17) (
      optAll ((x1)[(Int.toNat x17)]?) fun (r2 : List DV) =>
      optAll ((dLst 2 r2 0)) fun (l3 : List (List DV)) =>
      optAll (slices_Equal_api_Waste_api_Waste.R l1 l3) fun (c4 : (Bool × Unit)) =>
      cond ((!(c4).1)) (
        c = (false, ())) (
        H5 x1 x15 x16 (IntKind.i64.wrap (x17 + (1 : Int))) c)))) (
      c = (true, ()))) : H5 x1 x15 x16 x17 c := head_rule (n := 400) (noSum_ok _) (by kernel_rfl) h
end slices_EqualFunc_api_Waste_api_Waste_api_Waste_api_Waste__slices_Equal_api_Waste_api_Waste
/-! garrison/epoch.has -/
namespace epoch_has
def lv : Live := []
theorem start (a0_0 : Int) (a0_1 : List (List DV)) (a0_2 : List (List DV)) (a1 : Int) (c : (Bool × Unit)) (h :
    cond (decide ((a1 ≥ (0 : Int)))) (
      cond (decide ((a1 < (((a0_1).length : Nat) : Int)))) (
        optAll (epoch_Check.R a0_0 a0_1 a0_2) fun (c0 : (Int × Unit)) =>
        c = (((c0).1 == (0 : Int)), ())) (
        c = (false, ()))) (
      c = (false, ()))) : R a0_0 a0_1 a0_2 a1 = some c := start_rule (n := 400) (lv := lv) (noSum_ok _) (by kernel_rfl) h
end epoch_has
/-! garrison/epoch.limbo -/
namespace epoch_limbo
def lv : Live := []
theorem start (a0_0 : Int) (a0_1 : List (List DV)) (a0_2 : List (List DV)) (a1 : Int) (a2 : List (List DV)) (c : ((Int × (List (List DV) × (List (List DV) × Unit))) × Unit)) (h :
    needs ((((a0_2).length * 24) ≤ 140737488355328) ∧ (((a0_2).length * 1) ≤ 140737488355328)) (
    needs (((0 : Int) ≤ a1) ∧ (a1 < (((a0_2).length : Nat) : Int))) (
    optAll ((a0_2)[(0 + (Int.toNat a1))]?) fun (r0 : List DV) =>
    needs (1 ≤ (r0).length) (
    c = ((a0_0, (a0_1, (((((a0_2).set ((0 + (Int.toNat a1))) (putD r0 0 [(DV.lst 2 a2)]))).take ((a0_2).length)), ()))), ()))))) : R a0_0 a0_1 a0_2 a1 a2 = some c := start_rule (n := 400) (lv := lv) (noSum_ok _) (by kernel_rfl) h
end epoch_limbo
/-! slices.ContainsFunc[[]int64,int64] -/
namespace slices_ContainsFunc_int64_int64__epoch_Advance_1
def lv : Live := []
theorem start (a0 : List (List DV)) (b0 : Int) (b0_1 : List (List DV)) (b0_2 : List (List DV)) (c : ((Bool × Unit) × Option ABlk)) (h :
    optAll (slices_IndexFunc_int64_int64__epoch_Advance_1.R a0 b0 b0_1 b0_2) fun (c0 : ((Int × Unit) × Option ABlk)) =>
    needs ((c0).2 = (Option.some (ABlk.row 3 0 [[(AV.d (DV.v (Value.int IntKind.i64 b0))), (AV.d (DV.lst 1 b0_1)), (AV.d (DV.lst 1 b0_2))]]))) (
    c = ((decide ((((c0).1).1 ≥ (0 : Int))), ()), (Option.some (ABlk.row 3 0 [[(AV.d (DV.v (Value.int IntKind.i64 b0))), (AV.d (DV.lst 1 b0_1)), (AV.d (DV.lst 1 b0_2))]]))))) : R a0 b0 b0_1 b0_2 = some c := lend_rule (n := 400) (lv := lv) (noSum_ok _) (by kernel_rfl) h
end slices_ContainsFunc_int64_int64__epoch_Advance_1
/-! garrison/epoch.pin -/
namespace epoch_pin
def lv : Live := []
theorem start (a0_0 : Int) (a0_1 : List (List DV)) (a0_2 : List (List DV)) (a1 : Int) (a2 : Int) (c : ((Int × (List (List DV) × (List (List DV) × Unit))) × Unit)) (h :
    needs ((((a0_1).length * 8) ≤ 140737488355328) ∧ (((a0_1).length * 1) ≤ 140737488355328)) (
    needs (((0 : Int) ≤ a1) ∧ (a1 < (((a0_1).length : Nat) : Int))) (
    optAll ((a0_1)[(0 + (Int.toNat a1))]?) fun (r0 : List DV) =>
    needs (1 ≤ (r0).length) (
    c = ((a0_0, (((((a0_1).set ((0 + (Int.toNat a1))) (putD r0 0 [(DV.v (Value.int IntKind.i64 a2))]))).take ((a0_1).length)), (a0_2, ()))), ()))))) : R a0_0 a0_1 a0_2 a1 a2 = some c := start_rule (n := 400) (lv := lv) (noSum_ok _) (by kernel_rfl) h
end epoch_pin
/-! garrison/garrisonref11.core -/
namespace ref11_core
def lv : Live := []
theorem start (a0_0 : Int) (a0_1 : List (List DV)) (a0_2 : List (List DV)) (a1 : Int) (c : (Bool × Unit)) (h :
    optAll (ref11_Is.R a0_0 a0_1 a0_2) fun (c0 : (Bool × Unit)) =>
    cond ((c0).1) (
      cond (decide ((a1 ≥ (0 : Int)))) (
        c = (decide ((a1 < (((a0_1).length : Nat) : Int))), ())) (
        c = (false, ()))) (
      c = (false, ()))) : R a0_0 a0_1 a0_2 a1 = some c := start_rule (n := 400) (lv := lv) (noSum_ok _) (by kernel_rfl) h
end ref11_core
/-! garrison/garrisonref11.pin -/
namespace ref11_pin
def lv : Live := []
theorem start (a0_0 : Int) (a0_1 : List (List DV)) (a0_2 : List (List DV)) (a1 : Int) (a2 : Int) (c : ((Int × (List (List DV) × (List (List DV) × Unit))) × Unit)) (h :
    needs ((((a0_1).length * 8) ≤ 140737488355328) ∧ (((a0_1).length * 1) ≤ 140737488355328)) (
    needs (((0 : Int) ≤ a1) ∧ (a1 < (((a0_1).length : Nat) : Int))) (
    optAll ((a0_1)[(0 + (Int.toNat a1))]?) fun (r0 : List DV) =>
    needs (1 ≤ (r0).length) (
    c = ((a0_0, (((((a0_1).set ((0 + (Int.toNat a1))) (putD r0 0 [(DV.v (Value.int IntKind.i64 a2))]))).take ((a0_1).length)), (a0_2, ()))), ()))))) : R a0_0 a0_1 a0_2 a1 a2 = some c := start_rule (n := 400) (lv := lv) (noSum_ok _) (by kernel_rfl) h
end ref11_pin
/-! garrison/garrisonref11.limbo -/
namespace ref11_limbo
def lv : Live := []
theorem start (a0_0 : Int) (a0_1 : List (List DV)) (a0_2 : List (List DV)) (a1 : Int) (a2 : List (List DV)) (c : ((Int × (List (List DV) × (List (List DV) × Unit))) × Unit)) (h :
    needs ((((a0_2).length * 24) ≤ 140737488355328) ∧ (((a0_2).length * 1) ≤ 140737488355328)) (
    needs (((0 : Int) ≤ a1) ∧ (a1 < (((a0_2).length : Nat) : Int))) (
    optAll ((a0_2)[(0 + (Int.toNat a1))]?) fun (r0 : List DV) =>
    needs (1 ≤ (r0).length) (
    c = ((a0_0, (a0_1, (((((a0_2).set ((0 + (Int.toNat a1))) (putD r0 0 [(DV.lst 2 a2)]))).take ((a0_2).length)), ()))), ()))))) : R a0_0 a0_1 a0_2 a1 a2 = some c := start_rule (n := 400) (lv := lv) (noSum_ok _) (by kernel_rfl) h
end ref11_limbo
/-! slices.Equal[[]garrison/api.Waste,garrison/api.Waste] -/
namespace slices_Equal_api_Waste_api_Waste
def lv : Live := [((5, 1048576), [0, 1, 12, 13], [])]
abbrev H5 (x0 : List (List DV)) (x1 : List (List DV)) (x12 : Int) (x13 : Int) (c : (Bool × Unit)) : Prop := HeadAns cfg 36 sh lv (bd cfg 36 [1, 1, 0, 1, 0, 0]) 1048576 [.inBlock 0, .code (bd cfg 36 [1, 1, 1])]
  [(AV.d (DV.lst 2 x0)), (AV.d (DV.lst 2 x1)), (AV.d (DV.v (Value.int IntKind.i64 x12))), (AV.d (DV.v (Value.int IntKind.i64 x13)))] [] 1048576 c
theorem start (a0 : List (List DV)) (a1 : List (List DV)) (c : (Bool × Unit)) (h :
    cond (((((a0).length : Nat) : Int) != (((a1).length : Nat) : Int))) (
      c = (false, ())) (
      H5 a0 a1 (((a0).length : Nat) : Int) (0 : Int) c)) : R a0 a1 = some c := start_rule (n := 400) (lv := lv) (noSum_ok _) (by kernel_rfl) h
theorem H5_step (x0 : List (List DV)) (x1 : List (List DV)) (x12 : Int) (x13 : Int) (c : (Bool × Unit)) (h :
    cond (decide ((x13 < x12))) (
      needs ((0 : Int) ≤ x13) (
      optAll ((x0)[(Int.toNat x13)]?) fun (r0 : List DV) =>
      optAll ((dInt IntKind.i64 r0 0)) fun (z1 : Int) =>
      optAll ((dInt IntKind.i64 r0 1)) fun (z2 : Int) =>
      needs ((0 : Int) ≤ x13) (
      optAll ((x1)[(Int.toNat x13)]?) fun (r3 : List DV) =>
      optAll ((dInt IntKind.i64 r3 0)) fun (z4 : Int) =>
      optAll ((dInt IntKind.i64 r3 1)) fun (z5 : Int) =>
      cond ((!((z1 == z4) && ((z2 == z5) && true)))) (
        c = (false, ())) (
        H5 x0 x1 x12 (IntKind.i64.wrap (x13 + (1 : Int))) c)))) (
      c = (true, ()))) : H5 x0 x1 x12 x13 c := head_rule (n := 400) (noSum_ok _) (by kernel_rfl) h
end slices_Equal_api_Waste_api_Waste
/-! slices.IndexFunc[[]int64,int64] -/
namespace slices_IndexFunc_int64_int64__epoch_Advance_1
def lv : Live := [((3, 1048576), [0, 1, 7, 8], [0])]
abbrev H3 (x0 : List (List DV)) (x7 : Int) (x8 : Int) (b0 : Int) (b0_1 : List (List DV)) (b0_2 : List (List DV)) (c : ((Int × Unit) × Option ABlk)) : Prop := HeadAnsV wide true cfg 47 sh lv (bd cfg 47 [1, 0, 1, 0, 0]) 1048576 [.inBlock 0, .code (bd cfg 47 [1, 1])]
  [(AV.d (DV.lst 1 x0)), (AV.fn 39 [(AV.ptr 0 0 0 0)]), (AV.d (DV.v (Value.int IntKind.i64 x7))), (AV.d (DV.v (Value.int IntKind.i64 x8)))] [(Option.some (VBlk.cell 3 0 [(AV.d (DV.v (Value.int IntKind.i64 b0))), (AV.d (DV.lst 1 b0_1)), (AV.d (DV.lst 1 b0_2))]))] 1048576 c
theorem start (a0 : List (List DV)) (b0 : Int) (b0_1 : List (List DV)) (b0_2 : List (List DV)) (c : ((Int × Unit) × Option ABlk)) (h :
    H3 a0 (((a0).length : Nat) : Int) (0 : Int) b0 b0_1 b0_2 c) : R a0 b0 b0_1 b0_2 = some c := lend_rule (n := 400) (lv := lv) (noSum_ok _) (by kernel_rfl) h
theorem H3_step (x0 : List (List DV)) (x7 : Int) (x8 : Int) (b0 : Int) (b0_1 : List (List DV)) (b0_2 : List (List DV)) (c : ((Int × Unit) × Option ABlk)) (h :
    cond (decide ((x8 < x7))) (
      needs ((0 : Int) ≤ x8) (
      optAll ((x0)[(Int.toNat x8)]?) fun (r0 : List DV) =>
      optAll ((dInt IntKind.i64 r0 0)) fun (z1 : Int) =>
      cond ((z1 == b0)) (
        c = ((x8, ()), (Option.some (ABlk.row 3 0 [[(AV.d (DV.v (Value.int IntKind.i64 b0))), (AV.d (DV.lst 1 b0_1)), (AV.d (DV.lst 1 b0_2))]])))) (
        H3 x0 x7 (IntKind.i64.wrap (x8 + (1 : Int))) b0 b0_1 b0_2 c))) (
      c = (((-1 : Int), ()), (Option.some (ABlk.row 3 0 [[(AV.d (DV.v (Value.int IntKind.i64 b0))), (AV.d (DV.lst 1 b0_1)), (AV.d (DV.lst 1 b0_2))]]))))) : H3 x0 x7 x8 b0 b0_1 b0_2 c := head_ruleV (n := 400) (noSum_ok _) (by kernel_rfl) h
end slices_IndexFunc_int64_int64__epoch_Advance_1
end Go.AI
