/-
  Own work: printed by Tell, a program of this work: what each function's body does over symbols.
-/
import Derived.Test.YtfnnhfghggfccaaCfg
import Derived.KernelRfl
namespace Go.AI
open Go
set_option maxRecDepth 100000
set_option linter.unusedVariables false
set_option linter.unusedSimpArgs false
/-! garrison/garrisonlaw18.HistSteps -/
namespace law18_HistSteps
abbrev sh : List Sh := [.one (.bool)]
noncomputable abbrev R (a0_0 : List (List DV)) (a0_1 : List (List DV)) (a1_0 : List (List DV)) (a1_1 : List (List DV)) (a2_0 : Int) (a2_1 : Int) (a2_2 : Int) (a2_3 : Int) (a2_4 : Int) (a2_5 : Int) (a2_6 : Int) (a2_7 : Int) (a2_8 : Int) (a2_9 : Int) (a2_10 : Int) (a2_11 : Int) (a2_12 : Int) (a2_13 : Int) (a2_14 : Bool) (a2_15 : Int) (a2_16 : Int) (a2_17 : Int) (a2_18 : Int) (a2_19 : Int) (a2_20 : Int) (a2_21 : Int) (a2_22 : Int) (a2_23 : Int) (a2_24 : Int) (a2_25 : Int) (a2_26 : List (List DV)) : Option (Bool × Unit) := retω cfg sh 3 [(AV.agg [(AV.d (DV.lst 15 a0_0)), (AV.d (DV.lst 12 a0_1))]), (AV.agg [(AV.d (DV.lst 15 a1_0)), (AV.d (DV.lst 12 a1_1))]), (AV.agg [(AV.d (DV.v (Value.int IntKind.i64 a2_0))), (AV.d (DV.v (Value.int IntKind.i64 a2_1))), (AV.d (DV.v (Value.int IntKind.i64 a2_2))), (AV.d (DV.v (Value.int IntKind.i64 a2_3))), (AV.d (DV.v (Value.int IntKind.u64 a2_4))), (AV.d (DV.v (Value.int IntKind.u64 a2_5))), (AV.d (DV.v (Value.int IntKind.i64 a2_6))), (AV.d (DV.v (Value.int IntKind.i64 a2_7))), (AV.d (DV.v (Value.int IntKind.i64 a2_8))), (AV.d (DV.v (Value.int IntKind.i64 a2_9))), (AV.d (DV.v (Value.int IntKind.i64 a2_10))), (AV.d (DV.v (Value.int IntKind.i64 a2_11))), (AV.d (DV.v (Value.int IntKind.i64 a2_12))), (AV.d (DV.v (Value.int IntKind.i64 a2_13))), (AV.d (DV.v (Value.bool a2_14))), (AV.d (DV.v (Value.int IntKind.i64 a2_15))), (AV.d (DV.v (Value.int IntKind.i64 a2_16))), (AV.d (DV.v (Value.int IntKind.i64 a2_17))), (AV.d (DV.v (Value.int IntKind.u64 a2_18))), (AV.d (DV.v (Value.int IntKind.u64 a2_19))), (AV.d (DV.v (Value.int IntKind.i64 a2_20))), (AV.d (DV.v (Value.int IntKind.i64 a2_21))), (AV.d (DV.v (Value.int IntKind.i64 a2_22))), (AV.d (DV.v (Value.int IntKind.i64 a2_23))), (AV.d (DV.v (Value.int IntKind.i64 a2_24))), (AV.d (DV.v (Value.int IntKind.i64 a2_25))), (AV.d (DV.lst 5 a2_26))])]
end law18_HistSteps
/-! garrison/garrisonlaw18.HistRuns -/
namespace law18_HistRuns
abbrev sh : List Sh := [.one (.bool)]
noncomputable abbrev R (a0 : List (List DV)) : Option (Bool × Unit) := retω cfg sh 4 [(AV.d (DV.lst 27 a0))]
end law18_HistRuns
/-! garrison/garrisonlaw18.HistOrder -/
namespace law18_HistOrder
abbrev sh : List Sh := [.one (.bool)]
noncomputable abbrev R (a0 : List (List DV)) (a1 : Int) (a2 : Int) (a3 : Int) : Option (Bool × Unit) := retω cfg sh 5 [(AV.d (DV.lst 27 a0)), (AV.d (DV.v (Value.int IntKind.i64 a1))), (AV.d (DV.v (Value.int IntKind.i64 a2))), (AV.d (DV.v (Value.int IntKind.i64 a3)))]
end law18_HistOrder
/-! garrison/garrisonlaw18.HistOnce -/
namespace law18_HistOnce
abbrev sh : List Sh := [.one (.bool)]
noncomputable abbrev R (a0 : List (List DV)) (a1 : Int) : Option (Bool × Unit) := retω cfg sh 6 [(AV.d (DV.lst 27 a0)), (AV.d (DV.v (Value.int IntKind.i64 a1)))]
end law18_HistOnce
/-! garrison/garrisonlaw18.HistSpans -/
namespace law18_HistSpans
abbrev sh : List Sh := [.one (.bool)]
noncomputable abbrev R (a0 : List (List DV)) (a1 : Int) (a2_0 : Int) (a2_1 : Int) (a2_2 : Int) (a2_3 : Int) (a2_4 : Int) (a2_5 : Int) (a2_6 : Int) (a2_7 : Int) (a3_0 : Int) (a3_1 : Int) (a3_2 : Int) (a3_3 : Bool) (a4 : Int) (a5 : Int) : Option (Bool × Unit) := retω cfg sh 7 [(AV.d (DV.lst 27 a0)), (AV.d (DV.v (Value.int IntKind.i64 a1))), (AV.agg [(AV.d (DV.v (Value.int IntKind.i64 a2_0))), (AV.d (DV.v (Value.int IntKind.u64 a2_1))), (AV.d (DV.v (Value.int IntKind.u64 a2_2))), (AV.d (DV.v (Value.int IntKind.i64 a2_3))), (AV.d (DV.v (Value.int IntKind.i64 a2_4))), (AV.d (DV.v (Value.int IntKind.i64 a2_5))), (AV.d (DV.v (Value.int IntKind.i64 a2_6))), (AV.d (DV.v (Value.int IntKind.i64 a2_7)))]), (AV.agg [(AV.d (DV.v (Value.int IntKind.i64 a3_0))), (AV.d (DV.v (Value.int IntKind.i64 a3_1))), (AV.d (DV.v (Value.int IntKind.i64 a3_2))), (AV.d (DV.v (Value.bool a3_3)))]), (AV.d (DV.v (Value.int IntKind.i64 a4))), (AV.d (DV.v (Value.int IntKind.i64 a5)))]
end law18_HistSpans
/-! garrison/garrisonlaw18.small -/
namespace law18_small
abbrev sh : List Sh := [.one (.bool)]
noncomputable abbrev R (a0_0 : List (List DV)) (a0_1 : List (List DV)) : Option (Bool × Unit) := retω cfg sh 8 [(AV.agg [(AV.d (DV.lst 15 a0_0)), (AV.d (DV.lst 12 a0_1))])]
end law18_small
/-! garrison/garrisonlaw18.live -/
namespace law18_live
abbrev sh : List Sh := [.one (.bool)]
noncomputable abbrev R : Option (Bool × Unit) := retω cfg sh 9 []
end law18_live
/-! garrison/garrisonlaw18.does -/
namespace law18_does
abbrev sh : List Sh := [.agg [.lst 15, .lst 12], .one (.int .i64)]
noncomputable abbrev R (a0_0 : List (List DV)) (a0_1 : List (List DV)) (a1_0 : Int) (a1_1 : Int) (a1_2 : Int) (a1_3 : Int) (a1_4 : Int) (a1_5 : Int) (a1_6 : Int) (a1_7 : Int) (a1_8 : Int) (a1_9 : Int) (a1_10 : Int) (a1_11 : Int) (a1_12 : Int) (a1_13 : Int) (a1_14 : Bool) (a1_15 : Int) (a1_16 : Int) (a1_17 : Int) (a1_18 : Int) (a1_19 : Int) (a1_20 : Int) (a1_21 : Int) (a1_22 : Int) (a1_23 : Int) (a1_24 : Int) (a1_25 : Int) (a1_26 : List (List DV)) : Option ((List (List DV) × (List (List DV) × Unit)) × (Int × Unit)) := retω cfg sh 10 [(AV.agg [(AV.d (DV.lst 15 a0_0)), (AV.d (DV.lst 12 a0_1))]), (AV.agg [(AV.d (DV.v (Value.int IntKind.i64 a1_0))), (AV.d (DV.v (Value.int IntKind.i64 a1_1))), (AV.d (DV.v (Value.int IntKind.i64 a1_2))), (AV.d (DV.v (Value.int IntKind.i64 a1_3))), (AV.d (DV.v (Value.int IntKind.u64 a1_4))), (AV.d (DV.v (Value.int IntKind.u64 a1_5))), (AV.d (DV.v (Value.int IntKind.i64 a1_6))), (AV.d (DV.v (Value.int IntKind.i64 a1_7))), (AV.d (DV.v (Value.int IntKind.i64 a1_8))), (AV.d (DV.v (Value.int IntKind.i64 a1_9))), (AV.d (DV.v (Value.int IntKind.i64 a1_10))), (AV.d (DV.v (Value.int IntKind.i64 a1_11))), (AV.d (DV.v (Value.int IntKind.i64 a1_12))), (AV.d (DV.v (Value.int IntKind.i64 a1_13))), (AV.d (DV.v (Value.bool a1_14))), (AV.d (DV.v (Value.int IntKind.i64 a1_15))), (AV.d (DV.v (Value.int IntKind.i64 a1_16))), (AV.d (DV.v (Value.int IntKind.i64 a1_17))), (AV.d (DV.v (Value.int IntKind.u64 a1_18))), (AV.d (DV.v (Value.int IntKind.u64 a1_19))), (AV.d (DV.v (Value.int IntKind.i64 a1_20))), (AV.d (DV.v (Value.int IntKind.i64 a1_21))), (AV.d (DV.v (Value.int IntKind.i64 a1_22))), (AV.d (DV.v (Value.int IntKind.i64 a1_23))), (AV.d (DV.v (Value.int IntKind.i64 a1_24))), (AV.d (DV.v (Value.int IntKind.i64 a1_25))), (AV.d (DV.lst 5 a1_26))])]
end law18_does
/-! garrison/garrisonlaw18.document -/
namespace law18_document
abbrev sh : List Sh := [.agg [.lst 15, .lst 12], .one (.int .i64)]
noncomputable abbrev R (a0_0 : List (List DV)) (a0_1 : List (List DV)) (a1_0 : Int) (a1_1 : Int) (a1_2 : Int) (a1_3 : Int) (a1_4 : Int) (a1_5 : Int) (a1_6 : Int) (a1_7 : Int) (a1_8 : Int) (a1_9 : Int) (a1_10 : Int) (a1_11 : Int) (a1_12 : Int) (a1_13 : Int) (a1_14 : Bool) (a1_15 : Int) (a1_16 : Int) (a1_17 : Int) (a1_18 : Int) (a1_19 : Int) (a1_20 : Int) (a1_21 : Int) (a1_22 : Int) (a1_23 : Int) (a1_24 : Int) (a1_25 : Int) (a1_26 : List (List DV)) : Option ((List (List DV) × (List (List DV) × Unit)) × (Int × Unit)) := retω cfg sh 11 [(AV.agg [(AV.d (DV.lst 15 a0_0)), (AV.d (DV.lst 12 a0_1))]), (AV.agg [(AV.d (DV.v (Value.int IntKind.i64 a1_0))), (AV.d (DV.v (Value.int IntKind.i64 a1_1))), (AV.d (DV.v (Value.int IntKind.i64 a1_2))), (AV.d (DV.v (Value.int IntKind.i64 a1_3))), (AV.d (DV.v (Value.int IntKind.u64 a1_4))), (AV.d (DV.v (Value.int IntKind.u64 a1_5))), (AV.d (DV.v (Value.int IntKind.i64 a1_6))), (AV.d (DV.v (Value.int IntKind.i64 a1_7))), (AV.d (DV.v (Value.int IntKind.i64 a1_8))), (AV.d (DV.v (Value.int IntKind.i64 a1_9))), (AV.d (DV.v (Value.int IntKind.i64 a1_10))), (AV.d (DV.v (Value.int IntKind.i64 a1_11))), (AV.d (DV.v (Value.int IntKind.i64 a1_12))), (AV.d (DV.v (Value.int IntKind.i64 a1_13))), (AV.d (DV.v (Value.bool a1_14))), (AV.d (DV.v (Value.int IntKind.i64 a1_15))), (AV.d (DV.v (Value.int IntKind.i64 a1_16))), (AV.d (DV.v (Value.int IntKind.i64 a1_17))), (AV.d (DV.v (Value.int IntKind.u64 a1_18))), (AV.d (DV.v (Value.int IntKind.u64 a1_19))), (AV.d (DV.v (Value.int IntKind.i64 a1_20))), (AV.d (DV.v (Value.int IntKind.i64 a1_21))), (AV.d (DV.v (Value.int IntKind.i64 a1_22))), (AV.d (DV.v (Value.int IntKind.i64 a1_23))), (AV.d (DV.v (Value.int IntKind.i64 a1_24))), (AV.d (DV.v (Value.int IntKind.i64 a1_25))), (AV.d (DV.lst 5 a1_26))])]
end law18_document
/-! garrison/hist.Pending -/
namespace hist_Pending
abbrev sh : List Sh := [.one (.int .i64), .one (.bool)]
noncomputable abbrev R (a0_0 : List (List DV)) (a0_1 : List (List DV)) (a1 : Int) : Option (Int × (Bool × Unit)) := retω cfg sh 12 [(AV.agg [(AV.d (DV.lst 15 a0_0)), (AV.d (DV.lst 12 a0_1))]), (AV.d (DV.v (Value.int IntKind.i64 a1)))]
end hist_Pending
/-! garrison/garrisonref18.Pending -/
namespace ref18_Pending
abbrev sh : List Sh := [.one (.int .i64), .one (.bool)]
noncomputable abbrev R (a0_0 : List (List DV)) (a0_1 : List (List DV)) (a1 : Int) : Option (Int × (Bool × Unit)) := retω cfg sh 13 [(AV.agg [(AV.d (DV.lst 15 a0_0)), (AV.d (DV.lst 12 a0_1))]), (AV.d (DV.v (Value.int IntKind.i64 a1)))]
end ref18_Pending
/-! garrison/garrisonref18.Same -/
namespace ref18_Same
abbrev sh : List Sh := [.one (.bool)]
noncomputable abbrev R (a0_0 : List (List DV)) (a0_1 : List (List DV)) (a1_0 : List (List DV)) (a1_1 : List (List DV)) : Option (Bool × Unit) := retω cfg sh 14 [(AV.agg [(AV.d (DV.lst 15 a0_0)), (AV.d (DV.lst 12 a0_1))]), (AV.agg [(AV.d (DV.lst 15 a1_0)), (AV.d (DV.lst 12 a1_1))])]
end ref18_Same
/-! garrison/hist.Check -/
namespace hist_Check
abbrev sh : List Sh := [.one (.int .i64)]
noncomputable abbrev R (a0_0 : List (List DV)) (a0_1 : List (List DV)) : Option (Int × Unit) := retω cfg sh 16 [(AV.agg [(AV.d (DV.lst 15 a0_0)), (AV.d (DV.lst 12 a0_1))])]
end hist_Check
/-! garrison/garrisonlaw18.num -/
namespace law18_num
abbrev sh : List Sh := [.one (.int .i64)]
noncomputable abbrev R (a0 : Int) : Option (Int × Unit) := retω cfg sh 15 [(AV.d (DV.v (Value.int IntKind.i64 a0)))]
end law18_num
/-! garrison/garrisonref18.Is -/
namespace ref18_Is
abbrev sh : List Sh := [.one (.bool)]
noncomputable abbrev R (a0_0 : List (List DV)) (a0_1 : List (List DV)) : Option (Bool × Unit) := retω cfg sh 17 [(AV.agg [(AV.d (DV.lst 15 a0_0)), (AV.d (DV.lst 12 a0_1))])]
end ref18_Is
/-! garrison/hist.Same -/
namespace hist_Same
abbrev sh : List Sh := [.one (.bool)]
noncomputable abbrev R (a0_0 : List (List DV)) (a0_1 : List (List DV)) (a1_0 : List (List DV)) (a1_1 : List (List DV)) : Option (Bool × Unit) := retω cfg sh 18 [(AV.agg [(AV.d (DV.lst 15 a0_0)), (AV.d (DV.lst 12 a0_1))]), (AV.agg [(AV.d (DV.lst 15 a1_0)), (AV.d (DV.lst 12 a1_1))])]
end hist_Same
/-! garrison/hist.Ahead -/
namespace hist_Ahead
abbrev sh : List Sh := [.one (.bool)]
noncomputable abbrev R (a0_0 : Int) (a0_1 : Int) (a0_2 : Int) (a0_3 : Int) (a0_4 : Int) (a0_5 : Int) (a0_6 : Int) (a0_7 : Int) (a0_8 : Int) (a0_9 : Int) (a0_10 : Int) (a0_11 : Int) (a0_12 : Int) (a0_13 : Int) (a0_14 : Bool) (a1_0 : Int) (a1_1 : Int) (a1_2 : Int) (a1_3 : Int) (a1_4 : Int) (a1_5 : Int) (a1_6 : Int) (a1_7 : Int) (a1_8 : Int) (a1_9 : Int) (a1_10 : Int) (a1_11 : Int) (a1_12 : Int) (a1_13 : Int) (a1_14 : Bool) : Option (Bool × Unit) := retω cfg sh 19 [(AV.agg [(AV.d (DV.v (Value.int IntKind.i64 a0_0))), (AV.d (DV.v (Value.int IntKind.i64 a0_1))), (AV.d (DV.v (Value.int IntKind.u64 a0_2))), (AV.d (DV.v (Value.int IntKind.u64 a0_3))), (AV.d (DV.v (Value.int IntKind.i64 a0_4))), (AV.d (DV.v (Value.int IntKind.i64 a0_5))), (AV.d (DV.v (Value.int IntKind.i64 a0_6))), (AV.d (DV.v (Value.int IntKind.i64 a0_7))), (AV.d (DV.v (Value.int IntKind.i64 a0_8))), (AV.d (DV.v (Value.int IntKind.i64 a0_9))), (AV.d (DV.v (Value.int IntKind.i64 a0_10))), (AV.d (DV.v (Value.int IntKind.i64 a0_11))), (AV.d (DV.v (Value.int IntKind.i64 a0_12))), (AV.d (DV.v (Value.int IntKind.i64 a0_13))), (AV.d (DV.v (Value.bool a0_14)))]), (AV.agg [(AV.d (DV.v (Value.int IntKind.i64 a1_0))), (AV.d (DV.v (Value.int IntKind.i64 a1_1))), (AV.d (DV.v (Value.int IntKind.u64 a1_2))), (AV.d (DV.v (Value.int IntKind.u64 a1_3))), (AV.d (DV.v (Value.int IntKind.i64 a1_4))), (AV.d (DV.v (Value.int IntKind.i64 a1_5))), (AV.d (DV.v (Value.int IntKind.i64 a1_6))), (AV.d (DV.v (Value.int IntKind.i64 a1_7))), (AV.d (DV.v (Value.int IntKind.i64 a1_8))), (AV.d (DV.v (Value.int IntKind.i64 a1_9))), (AV.d (DV.v (Value.int IntKind.i64 a1_10))), (AV.d (DV.v (Value.int IntKind.i64 a1_11))), (AV.d (DV.v (Value.int IntKind.i64 a1_12))), (AV.d (DV.v (Value.int IntKind.i64 a1_13))), (AV.d (DV.v (Value.bool a1_14)))])]
end hist_Ahead
/-! garrison/hist.Invoke -/
namespace hist_Invoke
abbrev sh : List Sh := [.agg [.lst 15, .lst 12], .one (.int .i64)]
noncomputable abbrev R (a0_0 : List (List DV)) (a0_1 : List (List DV)) (a1 : Int) (a2_0 : Int) (a2_1 : Int) (a2_2 : Int) (a2_3 : Int) (a2_4 : Int) (a2_5 : Int) (a2_6 : Int) (a2_7 : Int) (a3 : Int) : Option ((List (List DV) × (List (List DV) × Unit)) × (Int × Unit)) := retω cfg sh 20 [(AV.agg [(AV.d (DV.lst 15 a0_0)), (AV.d (DV.lst 12 a0_1))]), (AV.d (DV.v (Value.int IntKind.i64 a1))), (AV.agg [(AV.d (DV.v (Value.int IntKind.i64 a2_0))), (AV.d (DV.v (Value.int IntKind.u64 a2_1))), (AV.d (DV.v (Value.int IntKind.u64 a2_2))), (AV.d (DV.v (Value.int IntKind.i64 a2_3))), (AV.d (DV.v (Value.int IntKind.i64 a2_4))), (AV.d (DV.v (Value.int IntKind.i64 a2_5))), (AV.d (DV.v (Value.int IntKind.i64 a2_6))), (AV.d (DV.v (Value.int IntKind.i64 a2_7)))]), (AV.d (DV.v (Value.int IntKind.i64 a3)))]
end hist_Invoke
/-! garrison/hist.Answer -/
namespace hist_Answer
abbrev sh : List Sh := [.agg [.lst 15, .lst 12], .one (.int .i64)]
noncomputable abbrev R (a0_0 : List (List DV)) (a0_1 : List (List DV)) (a1 : Int) (a2_0 : Int) (a2_1 : Int) (a2_2 : Int) (a2_3 : Bool) (a3 : Int) : Option ((List (List DV) × (List (List DV) × Unit)) × (Int × Unit)) := retω cfg sh 21 [(AV.agg [(AV.d (DV.lst 15 a0_0)), (AV.d (DV.lst 12 a0_1))]), (AV.d (DV.v (Value.int IntKind.i64 a1))), (AV.agg [(AV.d (DV.v (Value.int IntKind.i64 a2_0))), (AV.d (DV.v (Value.int IntKind.i64 a2_1))), (AV.d (DV.v (Value.int IntKind.i64 a2_2))), (AV.d (DV.v (Value.bool a2_3)))]), (AV.d (DV.v (Value.int IntKind.i64 a3)))]
end hist_Answer
/-! garrison/hist.Note -/
namespace hist_Note
abbrev sh : List Sh := [.agg [.lst 15, .lst 12], .one (.int .i64)]
noncomputable abbrev R (a0_0 : List (List DV)) (a0_1 : List (List DV)) (a1_0 : Int) (a1_1 : Int) (a1_2 : Int) (a1_3 : Int) (a1_4 : Int) (a1_5 : Int) (a1_6 : Int) (a1_7 : Int) (a1_8 : Int) (a1_9 : Int) (a1_10 : Int) (a1_11 : List (List DV)) : Option ((List (List DV) × (List (List DV) × Unit)) × (Int × Unit)) := retω cfg sh 22 [(AV.agg [(AV.d (DV.lst 15 a0_0)), (AV.d (DV.lst 12 a0_1))]), (AV.agg [(AV.d (DV.v (Value.int IntKind.i64 a1_0))), (AV.d (DV.v (Value.int IntKind.i64 a1_1))), (AV.d (DV.v (Value.int IntKind.i64 a1_2))), (AV.d (DV.v (Value.int IntKind.u64 a1_3))), (AV.d (DV.v (Value.int IntKind.u64 a1_4))), (AV.d (DV.v (Value.int IntKind.i64 a1_5))), (AV.d (DV.v (Value.int IntKind.i64 a1_6))), (AV.d (DV.v (Value.int IntKind.i64 a1_7))), (AV.d (DV.v (Value.int IntKind.i64 a1_8))), (AV.d (DV.v (Value.int IntKind.i64 a1_9))), (AV.d (DV.v (Value.int IntKind.i64 a1_10))), (AV.d (DV.lst 5 a1_11))])]
end hist_Note
/-! garrison/garrisonref18.Invoke -/
namespace ref18_Invoke
abbrev sh : List Sh := [.agg [.lst 15, .lst 12], .one (.int .i64)]
noncomputable abbrev R (a0_0 : List (List DV)) (a0_1 : List (List DV)) (a1 : Int) (a2_0 : Int) (a2_1 : Int) (a2_2 : Int) (a2_3 : Int) (a2_4 : Int) (a2_5 : Int) (a2_6 : Int) (a2_7 : Int) (a3 : Int) : Option ((List (List DV) × (List (List DV) × Unit)) × (Int × Unit)) := retω cfg sh 23 [(AV.agg [(AV.d (DV.lst 15 a0_0)), (AV.d (DV.lst 12 a0_1))]), (AV.d (DV.v (Value.int IntKind.i64 a1))), (AV.agg [(AV.d (DV.v (Value.int IntKind.i64 a2_0))), (AV.d (DV.v (Value.int IntKind.u64 a2_1))), (AV.d (DV.v (Value.int IntKind.u64 a2_2))), (AV.d (DV.v (Value.int IntKind.i64 a2_3))), (AV.d (DV.v (Value.int IntKind.i64 a2_4))), (AV.d (DV.v (Value.int IntKind.i64 a2_5))), (AV.d (DV.v (Value.int IntKind.i64 a2_6))), (AV.d (DV.v (Value.int IntKind.i64 a2_7)))]), (AV.d (DV.v (Value.int IntKind.i64 a3)))]
end ref18_Invoke
/-! garrison/garrisonref18.Answer -/
namespace ref18_Answer
abbrev sh : List Sh := [.agg [.lst 15, .lst 12], .one (.int .i64)]
noncomputable abbrev R (a0_0 : List (List DV)) (a0_1 : List (List DV)) (a1 : Int) (a2_0 : Int) (a2_1 : Int) (a2_2 : Int) (a2_3 : Bool) (a3 : Int) : Option ((List (List DV) × (List (List DV) × Unit)) × (Int × Unit)) := retω cfg sh 24 [(AV.agg [(AV.d (DV.lst 15 a0_0)), (AV.d (DV.lst 12 a0_1))]), (AV.d (DV.v (Value.int IntKind.i64 a1))), (AV.agg [(AV.d (DV.v (Value.int IntKind.i64 a2_0))), (AV.d (DV.v (Value.int IntKind.i64 a2_1))), (AV.d (DV.v (Value.int IntKind.i64 a2_2))), (AV.d (DV.v (Value.bool a2_3)))]), (AV.d (DV.v (Value.int IntKind.i64 a3)))]
end ref18_Answer
/-! garrison/garrisonref18.Note -/
namespace ref18_Note
abbrev sh : List Sh := [.agg [.lst 15, .lst 12], .one (.int .i64)]
noncomputable abbrev R (a0_0 : List (List DV)) (a0_1 : List (List DV)) (a1_0 : Int) (a1_1 : Int) (a1_2 : Int) (a1_3 : Int) (a1_4 : Int) (a1_5 : Int) (a1_6 : Int) (a1_7 : Int) (a1_8 : Int) (a1_9 : Int) (a1_10 : Int) (a1_11 : List (List DV)) : Option ((List (List DV) × (List (List DV) × Unit)) × (Int × Unit)) := retω cfg sh 25 [(AV.agg [(AV.d (DV.lst 15 a0_0)), (AV.d (DV.lst 12 a0_1))]), (AV.agg [(AV.d (DV.v (Value.int IntKind.i64 a1_0))), (AV.d (DV.v (Value.int IntKind.i64 a1_1))), (AV.d (DV.v (Value.int IntKind.i64 a1_2))), (AV.d (DV.v (Value.int IntKind.u64 a1_3))), (AV.d (DV.v (Value.int IntKind.u64 a1_4))), (AV.d (DV.v (Value.int IntKind.i64 a1_5))), (AV.d (DV.v (Value.int IntKind.i64 a1_6))), (AV.d (DV.v (Value.int IntKind.i64 a1_7))), (AV.d (DV.v (Value.int IntKind.i64 a1_8))), (AV.d (DV.v (Value.int IntKind.i64 a1_9))), (AV.d (DV.v (Value.int IntKind.i64 a1_10))), (AV.d (DV.lst 5 a1_11))])]
end ref18_Note
/-! garrison/hist.of -/
namespace hist_of
abbrev sh : List Sh := [.one (.int .i64)]
noncomputable abbrev R (a0 : List (List DV)) (a1 : Int) : Option (Int × Unit) := retω cfg sh 26 [(AV.d (DV.lst 15 a0)), (AV.d (DV.v (Value.int IntKind.i64 a1)))]
end hist_of
/-! garrison/garrisonref18.last -/
namespace ref18_last
abbrev sh : List Sh := [.one (.int .i64)]
noncomputable abbrev R (a0 : List (List DV)) (a1 : Int) (a2 : Int) : Option (Int × Unit) := retω cfg sh 27 [(AV.d (DV.lst 15 a0)), (AV.d (DV.v (Value.int IntKind.i64 a1))), (AV.d (DV.v (Value.int IntKind.i64 a2)))]
end ref18_last
/-! garrison/garrisonref17.Dones -/
namespace ref17_Dones
abbrev sh : List Sh := [.one (.bool)]
noncomputable abbrev R (a0 : List (List DV)) (a1 : List (List DV)) : Option (Bool × Unit) := retω cfg sh 28 [(AV.d (DV.lst 5 a0)), (AV.d (DV.lst 5 a1))]
end ref17_Dones
/-! garrison/hist.isSpan -/
namespace hist_isSpan
abbrev sh : List Sh := [.one (.bool)]
noncomputable abbrev R (a0_0 : Int) (a0_1 : Int) (a0_2 : Int) (a0_3 : Int) (a0_4 : Int) (a0_5 : Int) (a0_6 : Int) (a0_7 : Int) (a0_8 : Int) (a0_9 : Int) (a0_10 : Int) (a0_11 : Int) (a0_12 : Int) (a0_13 : Int) (a0_14 : Bool) (a1 : List (List DV)) : Option (Bool × Unit) := retω cfg sh 29 [(AV.agg [(AV.d (DV.v (Value.int IntKind.i64 a0_0))), (AV.d (DV.v (Value.int IntKind.i64 a0_1))), (AV.d (DV.v (Value.int IntKind.u64 a0_2))), (AV.d (DV.v (Value.int IntKind.u64 a0_3))), (AV.d (DV.v (Value.int IntKind.i64 a0_4))), (AV.d (DV.v (Value.int IntKind.i64 a0_5))), (AV.d (DV.v (Value.int IntKind.i64 a0_6))), (AV.d (DV.v (Value.int IntKind.i64 a0_7))), (AV.d (DV.v (Value.int IntKind.i64 a0_8))), (AV.d (DV.v (Value.int IntKind.i64 a0_9))), (AV.d (DV.v (Value.int IntKind.i64 a0_10))), (AV.d (DV.v (Value.int IntKind.i64 a0_11))), (AV.d (DV.v (Value.int IntKind.i64 a0_12))), (AV.d (DV.v (Value.int IntKind.i64 a0_13))), (AV.d (DV.v (Value.bool a0_14)))]), (AV.d (DV.lst 15 a1))]
end hist_isSpan
/-! garrison/hist.isEvent -/
namespace hist_isEvent
abbrev sh : List Sh := [.one (.bool)]
noncomputable abbrev R (a0_0 : Int) (a0_1 : Int) (a0_2 : Int) (a0_3 : Int) (a0_4 : Int) (a0_5 : Int) (a0_6 : Int) (a0_7 : Int) (a0_8 : Int) (a0_9 : Int) (a0_10 : Int) (a0_11 : List (List DV)) (a1 : List (List DV)) : Option (Bool × Unit) := retω cfg sh 30 [(AV.agg [(AV.d (DV.v (Value.int IntKind.i64 a0_0))), (AV.d (DV.v (Value.int IntKind.i64 a0_1))), (AV.d (DV.v (Value.int IntKind.i64 a0_2))), (AV.d (DV.v (Value.int IntKind.u64 a0_3))), (AV.d (DV.v (Value.int IntKind.u64 a0_4))), (AV.d (DV.v (Value.int IntKind.i64 a0_5))), (AV.d (DV.v (Value.int IntKind.i64 a0_6))), (AV.d (DV.v (Value.int IntKind.i64 a0_7))), (AV.d (DV.v (Value.int IntKind.i64 a0_8))), (AV.d (DV.v (Value.int IntKind.i64 a0_9))), (AV.d (DV.v (Value.int IntKind.i64 a0_10))), (AV.d (DV.lst 5 a0_11))]), (AV.d (DV.lst 12 a1))]
end hist_isEvent
/-! garrison/garrisonref18.core -/
namespace ref18_core
abbrev sh : List Sh := [.one (.bool)]
noncomputable abbrev R (a0 : Int) : Option (Bool × Unit) := retω cfg sh 31 [(AV.d (DV.v (Value.int IntKind.i64 a0)))]
end ref18_core
/-! slices.Equal[[]garrison/api.Span,garrison/api.Span] -/
namespace slices_Equal_api_Span_api_Span
abbrev sh : List Sh := [.one (.bool)]
noncomputable abbrev R (a0 : List (List DV)) (a1 : List (List DV)) : Option (Bool × Unit) := retω cfg sh 34 [(AV.d (DV.lst 15 a0)), (AV.d (DV.lst 15 a1))]
end slices_Equal_api_Span_api_Span
/-! slices.EqualFunc[[]garrison/api.Event,[]garrison/api.Event,garrison/api.Event,garrison/api.Event] -/
namespace slices_EqualFunc_api_Event_api_Event_api_Event_api_Event__hist_Same_1
abbrev sh : List Sh := [.one (.bool)]
noncomputable abbrev R (a0 : List (List DV)) (a1 : List (List DV)) : Option (Bool × Unit) := retω cfg sh 35 [(AV.d (DV.lst 12 a0)), (AV.d (DV.lst 12 a1)), (AV.d (DV.fn 32 []))]
end slices_EqualFunc_api_Event_api_Event_api_Event_api_Event__hist_Same_1
/-! garrison/hist.isCore -/
namespace hist_isCore
abbrev sh : List Sh := [.one (.bool)]
noncomputable abbrev R (a0 : Int) : Option (Bool × Unit) := retω cfg sh 36 [(AV.d (DV.v (Value.int IntKind.i64 a0)))]
end hist_isCore
/-! garrison/hist.Same$1 -/
namespace hist_Same_1
abbrev sh : List Sh := [.one (.bool)]
noncomputable abbrev R (a0_0 : Int) (a0_1 : Int) (a0_2 : Int) (a0_3 : Int) (a0_4 : Int) (a0_5 : Int) (a0_6 : Int) (a0_7 : Int) (a0_8 : Int) (a0_9 : Int) (a0_10 : Int) (a0_11 : List (List DV)) (a1_0 : Int) (a1_1 : Int) (a1_2 : Int) (a1_3 : Int) (a1_4 : Int) (a1_5 : Int) (a1_6 : Int) (a1_7 : Int) (a1_8 : Int) (a1_9 : Int) (a1_10 : Int) (a1_11 : List (List DV)) : Option (Bool × Unit) := retω cfg sh 32 [(AV.agg [(AV.d (DV.v (Value.int IntKind.i64 a0_0))), (AV.d (DV.v (Value.int IntKind.i64 a0_1))), (AV.d (DV.v (Value.int IntKind.i64 a0_2))), (AV.d (DV.v (Value.int IntKind.u64 a0_3))), (AV.d (DV.v (Value.int IntKind.u64 a0_4))), (AV.d (DV.v (Value.int IntKind.i64 a0_5))), (AV.d (DV.v (Value.int IntKind.i64 a0_6))), (AV.d (DV.v (Value.int IntKind.i64 a0_7))), (AV.d (DV.v (Value.int IntKind.i64 a0_8))), (AV.d (DV.v (Value.int IntKind.i64 a0_9))), (AV.d (DV.v (Value.int IntKind.i64 a0_10))), (AV.d (DV.lst 5 a0_11))]), (AV.agg [(AV.d (DV.v (Value.int IntKind.i64 a1_0))), (AV.d (DV.v (Value.int IntKind.i64 a1_1))), (AV.d (DV.v (Value.int IntKind.i64 a1_2))), (AV.d (DV.v (Value.int IntKind.u64 a1_3))), (AV.d (DV.v (Value.int IntKind.u64 a1_4))), (AV.d (DV.v (Value.int IntKind.i64 a1_5))), (AV.d (DV.v (Value.int IntKind.i64 a1_6))), (AV.d (DV.v (Value.int IntKind.i64 a1_7))), (AV.d (DV.v (Value.int IntKind.i64 a1_8))), (AV.d (DV.v (Value.int IntKind.i64 a1_9))), (AV.d (DV.v (Value.int IntKind.i64 a1_10))), (AV.d (DV.lst 5 a1_11))])]
end hist_Same_1
/-! slices.Equal[[]garrison/api.Done,garrison/api.Done] -/
namespace slices_Equal_api_Done_api_Done
abbrev sh : List Sh := [.one (.bool)]
noncomputable abbrev R (a0 : List (List DV)) (a1 : List (List DV)) : Option (Bool × Unit) := retω cfg sh 33 [(AV.d (DV.lst 5 a0)), (AV.d (DV.lst 5 a1))]
end slices_Equal_api_Done_api_Done
/-! garrison/garrisonlaw18.HistSteps -/
namespace law18_HistSteps
def lv : Live := []
theorem start (a0_0 : List (List DV)) (a0_1 : List (List DV)) (a1_0 : List (List DV)) (a1_1 : List (List DV)) (a2_0 : Int) (a2_1 : Int) (a2_2 : Int) (a2_3 : Int) (a2_4 : Int) (a2_5 : Int) (a2_6 : Int) (a2_7 : Int) (a2_8 : Int) (a2_9 : Int) (a2_10 : Int) (a2_11 : Int) (a2_12 : Int) (a2_13 : Int) (a2_14 : Bool) (a2_15 : Int) (a2_16 : Int) (a2_17 : Int) (a2_18 : Int) (a2_19 : Int) (a2_20 : Int) (a2_21 : Int) (a2_22 : Int) (a2_23 : Int) (a2_24 : Int) (a2_25 : Int) (a2_26 : List (List DV)) (c : (Bool × Unit)) (h :
    optAll (law18_small.R a0_0 a0_1) fun (c0 : (Bool × Unit)) =>
    cond ((!(c0).1)) (
      optAll (law18_live.R) fun (c1 : (Bool × Unit)) =>
      c = ((c1).1, ())) (
      optAll (law18_small.R a1_0 a1_1) fun (c2 : (Bool × Unit)) =>
      cond ((!(c2).1)) (
        optAll (law18_live.R) fun (c3 : (Bool × Unit)) =>
        c = ((c3).1, ())) (
        cond (decide (((((a2_26).length : Nat) : Int) > (10 : Int)))) (
          optAll (law18_live.R) fun (c4 : (Bool × Unit)) =>
          c = ((c4).1, ())) (
          optAll (law18_does.R a0_0 a0_1 a2_0 a2_1 a2_2 a2_3 a2_4 a2_5 a2_6 a2_7 a2_8 a2_9 a2_10 a2_11 a2_12 a2_13 a2_14 a2_15 a2_16 a2_17 a2_18 a2_19 a2_20 a2_21 a2_22 a2_23 a2_24 a2_25 a2_26) fun (c5 : ((List (List DV) × (List (List DV) × Unit)) × (Int × Unit))) =>
          optAll (law18_document.R a0_0 a0_1 a2_0 a2_1 a2_2 a2_3 a2_4 a2_5 a2_6 a2_7 a2_8 a2_9 a2_10 a2_11 a2_12 a2_13 a2_14 a2_15 a2_16 a2_17 a2_18 a2_19 a2_20 a2_21 a2_22 a2_23 a2_24 a2_25 a2_26) fun (c6 : ((List (List DV) × (List (List DV) × Unit)) × (Int × Unit))) =>
          optAll (hist_Pending.R a0_0 a0_1 a2_1) fun (c7 : (Int × (Bool × Unit))) =>
          optAll (ref18_Pending.R a0_0 a0_1 a2_1) fun (c8 : (Int × (Bool × Unit))) =>
          optAll (ref18_Same.R ((c5).1).1 (((c5).1).2).1 ((c6).1).1 (((c6).1).2).1) fun (c9 : (Bool × Unit)) =>
          cond ((c9).1) (
            cond ((((c5).2).1 == ((c6).2).1)) (
              optAll (hist_Check.R a0_0 a0_1) fun (c10 : (Int × Unit)) =>
              optAll (law18_num.R (c10).1) fun (c11 : (Int × Unit)) =>
              optAll (ref18_Is.R a0_0 a0_1) fun (c12 : (Bool × Unit)) =>
              cond ((((c11).1 == (0 : Int)) == (c12).1)) (
                optAll (hist_Same.R a0_0 a0_1 a1_0 a1_1) fun (c13 : (Bool × Unit)) =>
                optAll (ref18_Same.R a0_0 a0_1 a1_0 a1_1) fun (c14 : (Bool × Unit)) =>
                cond (((c13).1 == (c14).1)) (
                  cond (((c7).1 == (c8).1)) (
                    cond ((((c7).2).1 == ((c8).2).1)) (
                      optAll (law18_live.R) fun (c15 : (Bool × Unit)) =>
                      c = ((c15).1, ())) (
                      c = (false, ()))) (
                    c = (false, ()))) (
                  c = (false, ()))) (
                c = (false, ()))) (
              c = (false, ()))) (
            c = (false, ())))))) : R a0_0 a0_1 a1_0 a1_1 a2_0 a2_1 a2_2 a2_3 a2_4 a2_5 a2_6 a2_7 a2_8 a2_9 a2_10 a2_11 a2_12 a2_13 a2_14 a2_15 a2_16 a2_17 a2_18 a2_19 a2_20 a2_21 a2_22 a2_23 a2_24 a2_25 a2_26 = some c := start_rule (n := 400) (lv := lv) (noSum_ok _) (by kernel_rfl) h
end law18_HistSteps
/-! garrison/garrisonlaw18.HistRuns -/
namespace law18_HistRuns
def lv : Live := [((6, 1048576), [0, 3, 4, 5], [163, 179])]
abbrev H6 (x0 : List (List DV)) (x5 : Int) (b163 : List (List DV)) (b163_1 : List (List DV)) (b179 : List (List DV)) (b179_1 : List (List DV)) (c : (Bool × Unit)) : Prop := HeadAns cfg 4 sh lv (bd cfg 4 [1, 1, 1, 0, 1, 0, 0]) 1048576 [.inBlock 0, .code (bd cfg 4 [1, 1, 1, 1])]
  [(AV.d (DV.lst 27 x0)), (AV.ptr 163 0 0 0), (AV.ptr 179 0 0 0), (AV.d (DV.v (Value.int IntKind.i64 x5)))] [(Option.some (VBlk.cell 2 0 [(AV.d (DV.lst 15 b163)), (AV.d (DV.lst 12 b163_1))])), (Option.some (VBlk.cell 2 0 [(AV.d (DV.lst 15 b179)), (AV.d (DV.lst 12 b179_1))]))] 1048576 c
theorem start (a0 : List (List DV)) (c : (Bool × Unit)) (h :
    cond (decide (((((a0).length : Nat) : Int) > (60 : Int)))) (
      optAll (law18_live.R) fun (c0 : (Bool × Unit)) =>
      c = ((c0).1, ())) (
      H6 a0 (0 : Int) [] [] [] [] c)) : R a0 = some c := start_rule (n := 400) (lv := lv) (noSum_ok _) (by kernel_rfl) h
theorem H6_step (x0 : List (List DV)) (x5 : Int) (b163 : List (List DV)) (b163_1 : List (List DV)) (b179 : List (List DV)) (b179_1 : List (List DV)) (c : (Bool × Unit)) (h :
    cond (decide ((x5 < (((x0).length : Nat) : Int)))) (
      needs ((0 : Int) ≤ x5) (
      optAll ((x0)[(Int.toNat x5)]?) fun (r1 : List DV) =>
      optAll ((dLst 5 r1 26)) fun (l2 : List (List DV)) =>
      cond (decide (((((l2).length : Nat) : Int) > (10 : Int)))) (
        optAll (law18_live.R) fun (c3 : (Bool × Unit)) =>
        c = ((c3).1, ())) (
        needs ((0 : Int) ≤ x5) (
        optAll ((x0)[(Int.toNat x5)]?) fun (r4 : List DV) =>
        optAll ((dInt IntKind.i64 r4 0)) fun (z5 : Int) =>
        optAll ((dInt IntKind.i64 r4 1)) fun (z6 : Int) =>
        optAll ((dInt IntKind.i64 r4 2)) fun (z7 : Int) =>
        optAll ((dInt IntKind.i64 r4 3)) fun (z8 : Int) =>
        optAll ((dInt IntKind.u64 r4 4)) fun (z9 : Int) =>
        optAll ((dInt IntKind.u64 r4 5)) fun (z10 : Int) =>
        optAll ((dInt IntKind.i64 r4 6)) fun (z11 : Int) =>
        optAll ((dInt IntKind.i64 r4 7)) fun (z12 : Int) =>
        optAll ((dInt IntKind.i64 r4 8)) fun (z13 : Int) =>
        optAll ((dInt IntKind.i64 r4 9)) fun (z14 : Int) =>
        optAll ((dInt IntKind.i64 r4 10)) fun (z15 : Int) =>
        optAll ((dInt IntKind.i64 r4 11)) fun (z16 : Int) =>
        optAll ((dInt IntKind.i64 r4 12)) fun (z17 : Int) =>
        optAll ((dInt IntKind.i64 r4 13)) fun (z18 : Int) =>
        optAll ((dBool r4 14)) fun (z19 : Bool) =>
        optAll ((dInt IntKind.i64 r4 15)) fun (z20 : Int) =>
        optAll ((dInt IntKind.i64 r4 16)) fun (z21 : Int) =>
        optAll ((dInt IntKind.i64 r4 17)) fun (z22 : Int) =>
        optAll ((dInt IntKind.u64 r4 18)) fun (z23 : Int) =>
        optAll ((dInt IntKind.u64 r4 19)) fun (z24 : Int) =>
        optAll ((dInt IntKind.i64 r4 20)) fun (z25 : Int) =>
        optAll ((dInt IntKind.i64 r4 21)) fun (z26 : Int) =>
        optAll ((dInt IntKind.i64 r4 22)) fun (z27 : Int) =>
        optAll ((dInt IntKind.i64 r4 23)) fun (z28 : Int) =>
        optAll ((dInt IntKind.i64 r4 24)) fun (z29 : Int) =>
        optAll ((dInt IntKind.i64 r4 25)) fun (z30 : Int) =>
        optAll ((dLst 5 r4 26)) fun (l31 : List (List DV)) =>
        optAll (law18_does.R b163 b163_1 z5 z6 z7 z8 z9 z10 z11 z12 z13 z14 z15 z16 z17 z18 z19 z20 z21 z22 z23 z24 z25 z26 z27 z28 z29 z30 l31) fun (c32 : ((List (List DV) × (List (List DV) × Unit)) × (Int × Unit))) =>
        needs ((0 : Int) ≤ x5) (
        optAll ((x0)[(Int.toNat x5)]?) fun (r33 : List DV) =>
        optAll ((dInt IntKind.i64 r33 0)) fun (z34 : Int) =>
        optAll ((dInt IntKind.i64 r33 1)) fun (z35 : Int) =>
        optAll ((dInt IntKind.i64 r33 2)) fun (z36 : Int) =>
        optAll ((dInt IntKind.i64 r33 3)) fun (z37 : Int) =>
        optAll ((dInt IntKind.u64 r33 4)) fun (z38 : Int) =>
        optAll ((dInt IntKind.u64 r33 5)) fun (z39 : Int) =>
        optAll ((dInt IntKind.i64 r33 6)) fun (z40 : Int) =>
        optAll ((dInt IntKind.i64 r33 7)) fun (z41 : Int) =>
        optAll ((dInt IntKind.i64 r33 8)) fun (z42 : Int) =>
        optAll ((dInt IntKind.i64 r33 9)) fun (z43 : Int) =>
        optAll ((dInt IntKind.i64 r33 10)) fun (z44 : Int) =>
        optAll ((dInt IntKind.i64 r33 11)) fun (z45 : Int) =>
        optAll ((dInt IntKind.i64 r33 12)) fun (z46 : Int) =>
        optAll ((dInt IntKind.i64 r33 13)) fun (z47 : Int) =>
        optAll ((dBool r33 14)) fun (z48 : Bool) =>
        optAll ((dInt IntKind.i64 r33 15)) fun (z49 : Int) =>
        optAll ((dInt IntKind.i64 r33 16)) fun (z50 : Int) =>
        optAll ((dInt IntKind.i64 r33 17)) fun (z51 : Int) =>
        optAll ((dInt IntKind.u64 r33 18)) fun (z52 : Int) =>
        optAll ((dInt IntKind.u64 r33 19)) fun (z53 : Int) =>
        optAll ((dInt IntKind.i64 r33 20)) fun (z54 : Int) =>
        optAll ((dInt IntKind.i64 r33 21)) fun (z55 : Int) =>
        optAll ((dInt IntKind.i64 r33 22)) fun (z56 : Int) =>
        optAll ((dInt IntKind.i64 r33 23)) fun (z57 : Int) =>
        optAll ((dInt IntKind.i64 r33 24)) fun (z58 : Int) =>
        optAll ((dInt IntKind.i64 r33 25)) fun (z59 : Int) =>
        optAll ((dLst 5 r33 26)) fun (l60 : List (List DV)) =>
        optAll (law18_document.R b179 b179_1 z34 z35 z36 z37 z38 z39 z40 z41 z42 z43 z44 z45 z46 z47 z48 z49 z50 z51 z52 z53 z54 z55 z56 z57 z58 z59 l60) fun (c61 : ((List (List DV) × (List (List DV) × Unit)) × (Int × Unit))) =>
        optAll (ref18_Same.R ((c32).1).1 (((c32).1).2).1 ((c61).1).1 (((c61).1).2).1) fun (c62 : (Bool × Unit)) =>
        cond ((!(c62).1)) (
          c = (false, ())) (
          cond ((((c32).2).1 != ((c61).2).1)) (
            c = (false, ())) (
            optAll (hist_Check.R ((c32).1).1 (((c32).1).2).1) fun (c63 : (Int × Unit)) =>
            optAll (law18_num.R (c63).1) fun (c64 : (Int × Unit)) =>
            cond (((c64).1 != (0 : Int))) (
              c = (false, ())) (
              H6 x0 (IntKind.i64.wrap (x5 + (1 : Int))) ((c32).1).1 (((c32).1).2).1 ((c61).1).1 (((c61).1).2).1 c)))))))) (
      optAll (law18_live.R) fun (c65 : (Bool × Unit)) =>
      c = ((c65).1, ()))) : H6 x0 x5 b163 b163_1 b179 b179_1 c := head_rule (n := 400) (noSum_ok _) (by kernel_rfl) h
end law18_HistRuns
/-! garrison/garrisonlaw18.HistOrder -/
namespace law18_HistOrder
def lv : Live := [((6, 1048576), [0, 1, 2, 3, 9, 10], [215])]
abbrev H6 (x0 : List (List DV)) (x1 : Int) (x2 : Int) (x3 : Int) (x10 : Int) (b215 : List (List DV)) (b215_1 : List (List DV)) (c : (Bool × Unit)) : Prop := HeadAns cfg 5 sh lv (bd cfg 5 [1, 1, 1, 0, 1, 0, 0]) 1048576 [.inBlock 0, .code (bd cfg 5 [1, 1, 1, 1])]
  [(AV.d (DV.lst 27 x0)), (AV.d (DV.v (Value.int IntKind.i64 x1))), (AV.d (DV.v (Value.int IntKind.i64 x2))), (AV.d (DV.v (Value.int IntKind.i64 x3))), (AV.ptr 215 0 0 0), (AV.d (DV.v (Value.int IntKind.i64 x10)))] [(Option.some (VBlk.cell 2 0 [(AV.d (DV.lst 15 b215)), (AV.d (DV.lst 12 b215_1))]))] 1048576 c
theorem start (a0 : List (List DV)) (a1 : Int) (a2 : Int) (a3 : Int) (c : (Bool × Unit)) (h :
    cond (decide (((((a0).length : Nat) : Int) > (60 : Int)))) (
      optAll (law18_live.R) fun (c0 : (Bool × Unit)) =>
      c = ((c0).1, ())) (
      H6 a0 a1 a2 a3 (0 : Int) [] [] c)) : R a0 a1 a2 a3 = some c := start_rule (n := 400) (lv := lv) (noSum_ok _) (by kernel_rfl) h
theorem H6_step (x0 : List (List DV)) (x1 : Int) (x2 : Int) (x3 : Int) (x10 : Int) (b215 : List (List DV)) (b215_1 : List (List DV)) (c : (Bool × Unit)) (h :
    cond (decide ((x10 < (((x0).length : Nat) : Int)))) (
      needs ((0 : Int) ≤ x10) (
      optAll ((x0)[(Int.toNat x10)]?) fun (r1 : List DV) =>
      optAll ((dLst 5 r1 26)) fun (l2 : List (List DV)) =>
      cond (decide (((((l2).length : Nat) : Int) > (10 : Int)))) (
        optAll (law18_live.R) fun (c3 : (Bool × Unit)) =>
        c = ((c3).1, ())) (
        needs ((0 : Int) ≤ x10) (
        optAll ((x0)[(Int.toNat x10)]?) fun (r4 : List DV) =>
        optAll ((dInt IntKind.i64 r4 0)) fun (z5 : Int) =>
        optAll ((dInt IntKind.i64 r4 1)) fun (z6 : Int) =>
        optAll ((dInt IntKind.i64 r4 2)) fun (z7 : Int) =>
        optAll ((dInt IntKind.i64 r4 3)) fun (z8 : Int) =>
        optAll ((dInt IntKind.u64 r4 4)) fun (z9 : Int) =>
        optAll ((dInt IntKind.u64 r4 5)) fun (z10 : Int) =>
        optAll ((dInt IntKind.i64 r4 6)) fun (z11 : Int) =>
        optAll ((dInt IntKind.i64 r4 7)) fun (z12 : Int) =>
        optAll ((dInt IntKind.i64 r4 8)) fun (z13 : Int) =>
        optAll ((dInt IntKind.i64 r4 9)) fun (z14 : Int) =>
        optAll ((dInt IntKind.i64 r4 10)) fun (z15 : Int) =>
        optAll ((dInt IntKind.i64 r4 11)) fun (z16 : Int) =>
        optAll ((dInt IntKind.i64 r4 12)) fun (z17 : Int) =>
        optAll ((dInt IntKind.i64 r4 13)) fun (z18 : Int) =>
        optAll ((dBool r4 14)) fun (z19 : Bool) =>
        optAll ((dInt IntKind.i64 r4 15)) fun (z20 : Int) =>
        optAll ((dInt IntKind.i64 r4 16)) fun (z21 : Int) =>
        optAll ((dInt IntKind.i64 r4 17)) fun (z22 : Int) =>
        optAll ((dInt IntKind.u64 r4 18)) fun (z23 : Int) =>
        optAll ((dInt IntKind.u64 r4 19)) fun (z24 : Int) =>
        optAll ((dInt IntKind.i64 r4 20)) fun (z25 : Int) =>
        optAll ((dInt IntKind.i64 r4 21)) fun (z26 : Int) =>
        optAll ((dInt IntKind.i64 r4 22)) fun (z27 : Int) =>
        optAll ((dInt IntKind.i64 r4 23)) fun (z28 : Int) =>
        optAll ((dInt IntKind.i64 r4 24)) fun (z29 : Int) =>
        optAll ((dInt IntKind.i64 r4 25)) fun (z30 : Int) =>
        optAll ((dLst 5 r4 26)) fun (l31 : List (List DV)) =>
        optAll (law18_does.R b215 b215_1 z5 z6 z7 z8 z9 z10 z11 z12 z13 z14 z15 z16 z17 z18 z19 z20 z21 z22 z23 z24 z25 z26 z27 z28 z29 z30 l31) fun (c32 : ((List (List DV) × (List (List DV) × Unit)) × (Int × Unit))) =>
        H6 x0 x1 x2 x3 (IntKind.i64.wrap (x10 + (1 : Int))) ((c32).1).1 (((c32).1).2).1 c)))) (
      cond (decide ((x1 < (0 : Int)))) (
        optAll (law18_live.R) fun (c33 : (Bool × Unit)) =>
        c = ((c33).1, ())) (
        cond (decide ((x2 < (0 : Int)))) (
          optAll (law18_live.R) fun (c34 : (Bool × Unit)) =>
          c = ((c34).1, ())) (
          cond (decide ((x3 < (0 : Int)))) (
            optAll (law18_live.R) fun (c35 : (Bool × Unit)) =>
            c = ((c35).1, ())) (
            cond (decide ((x1 ≥ (((b215).length : Nat) : Int)))) (
              optAll (law18_live.R) fun (c36 : (Bool × Unit)) =>
              c = ((c36).1, ())) (
              cond (decide ((x2 ≥ (((b215).length : Nat) : Int)))) (
                optAll (law18_live.R) fun (c37 : (Bool × Unit)) =>
                c = ((c37).1, ())) (
                cond (decide ((x3 ≥ (((b215).length : Nat) : Int)))) (
                  optAll (law18_live.R) fun (c38 : (Bool × Unit)) =>
                  c = ((c38).1, ())) (
                  needs ((0 : Int) ≤ x1) (
                  optAll ((b215)[(Int.toNat x1)]?) fun (r39 : List DV) =>
                  optAll ((dInt IntKind.i64 r39 0)) fun (z40 : Int) =>
                  optAll ((dInt IntKind.i64 r39 1)) fun (z41 : Int) =>
                  optAll ((dInt IntKind.u64 r39 2)) fun (z42 : Int) =>
                  optAll ((dInt IntKind.u64 r39 3)) fun (z43 : Int) =>
                  optAll ((dInt IntKind.i64 r39 4)) fun (z44 : Int) =>
                  optAll ((dInt IntKind.i64 r39 5)) fun (z45 : Int) =>
                  optAll ((dInt IntKind.i64 r39 6)) fun (z46 : Int) =>
                  optAll ((dInt IntKind.i64 r39 7)) fun (z47 : Int) =>
                  optAll ((dInt IntKind.i64 r39 8)) fun (z48 : Int) =>
                  optAll ((dInt IntKind.i64 r39 9)) fun (z49 : Int) =>
                  optAll ((dInt IntKind.i64 r39 10)) fun (z50 : Int) =>
                  optAll ((dInt IntKind.i64 r39 11)) fun (z51 : Int) =>
                  optAll ((dInt IntKind.i64 r39 12)) fun (z52 : Int) =>
                  optAll ((dInt IntKind.i64 r39 13)) fun (z53 : Int) =>
                  optAll ((dBool r39 14)) fun (z54 : Bool) =>
                  needs ((0 : Int) ≤ x2) (
                  optAll ((b215)[(Int.toNat x2)]?) fun (r55 : List DV) =>
                  optAll ((dInt IntKind.i64 r55 0)) fun (z56 : Int) =>
                  optAll ((dInt IntKind.i64 r55 1)) fun (z57 : Int) =>
                  optAll ((dInt IntKind.u64 r55 2)) fun (z58 : Int) =>
                  optAll ((dInt IntKind.u64 r55 3)) fun (z59 : Int) =>
                  optAll ((dInt IntKind.i64 r55 4)) fun (z60 : Int) =>
                  optAll ((dInt IntKind.i64 r55 5)) fun (z61 : Int) =>
                  optAll ((dInt IntKind.i64 r55 6)) fun (z62 : Int) =>
                  optAll ((dInt IntKind.i64 r55 7)) fun (z63 : Int) =>
                  optAll ((dInt IntKind.i64 r55 8)) fun (z64 : Int) =>
                  optAll ((dInt IntKind.i64 r55 9)) fun (z65 : Int) =>
                  optAll ((dInt IntKind.i64 r55 10)) fun (z66 : Int) =>
                  optAll ((dInt IntKind.i64 r55 11)) fun (z67 : Int) =>
                  optAll ((dInt IntKind.i64 r55 12)) fun (z68 : Int) =>
                  optAll ((dInt IntKind.i64 r55 13)) fun (z69 : Int) =>
                  optAll ((dBool r55 14)) fun (z70 : Bool) =>
                  needs ((0 : Int) ≤ x3) (
                  optAll ((b215)[(Int.toNat x3)]?) fun (r71 : List DV) =>
                  optAll ((dInt IntKind.i64 r71 0)) fun (z72 : Int) =>
                  optAll ((dInt IntKind.i64 r71 1)) fun (z73 : Int) =>
                  optAll ((dInt IntKind.u64 r71 2)) fun (z74 : Int) =>
                  optAll ((dInt IntKind.u64 r71 3)) fun (z75 : Int) =>
                  optAll ((dInt IntKind.i64 r71 4)) fun (z76 : Int) =>
                  optAll ((dInt IntKind.i64 r71 5)) fun (z77 : Int) =>
                  optAll ((dInt IntKind.i64 r71 6)) fun (z78 : Int) =>
                  optAll ((dInt IntKind.i64 r71 7)) fun (z79 : Int) =>
                  optAll ((dInt IntKind.i64 r71 8)) fun (z80 : Int) =>
                  optAll ((dInt IntKind.i64 r71 9)) fun (z81 : Int) =>
                  optAll ((dInt IntKind.i64 r71 10)) fun (z82 : Int) =>
                  optAll ((dInt IntKind.i64 r71 11)) fun (z83 : Int) =>
                  optAll ((dInt IntKind.i64 r71 12)) fun (z84 : Int) =>
                  optAll ((dInt IntKind.i64 r71 13)) fun (z85 : Int) =>
                  optAll ((dBool r71 14)) fun (z86 : Bool) =>
                  cond (decide ((x1 < x2))) (
                    cond ((z40 == z56)) (
                      optAll (hist_Ahead.R z40 z41 z42 z43 z44 z45 z46 z47 z48 z49 z50 z51 z52 z53 z54 z56 z57 z58 z59 z60 z61 z62 z63 z64 z65 z66 z67 z68 z69 z70) fun (c87 : (Bool × Unit)) =>
                      cond ((!(c87).1)) (
                        c = (false, ())) (
                        optAll (hist_Ahead.R z40 z41 z42 z43 z44 z45 z46 z47 z48 z49 z50 z51 z52 z53 z54 z56 z57 z58 z59 z60 z61 z62 z63 z64 z65 z66 z67 z68 z69 z70) fun (c88 : (Bool × Unit)) =>
                        cond ((c88).1) (
                          optAll (hist_Ahead.R z56 z57 z58 z59 z60 z61 z62 z63 z64 z65 z66 z67 z68 z69 z70 z40 z41 z42 z43 z44 z45 z46 z47 z48 z49 z50 z51 z52 z53 z54) fun (c89 : (Bool × Unit)) =>
                          cond ((c89).1) (
                            c = (false, ())) (
                            cond (decide ((x1 ≥ x2))) (
                              c = (false, ())) (
                              optAll (hist_Ahead.R z56 z57 z58 z59 z60 z61 z62 z63 z64 z65 z66 z67 z68 z69 z70 z72 z73 z74 z75 z76 z77 z78 z79 z80 z81 z82 z83 z84 z85 z86) fun (c90 : (Bool × Unit)) =>
                              cond ((c90).1) (
                                optAll (hist_Ahead.R z40 z41 z42 z43 z44 z45 z46 z47 z48 z49 z50 z51 z52 z53 z54 z72 z73 z74 z75 z76 z77 z78 z79 z80 z81 z82 z83 z84 z85 z86) fun (c91 : (Bool × Unit)) =>
                                cond ((!(c91).1)) (
                                  c = (false, ())) (
                                  optAll (hist_Ahead.R z40 z41 z42 z43 z44 z45 z46 z47 z48 z49 z50 z51 z52 z53 z54 z40 z41 z42 z43 z44 z45 z46 z47 z48 z49 z50 z51 z52 z53 z54) fun (c92 : (Bool × Unit)) =>
                                  cond ((!(c92).1)) (
                                    optAll (law18_live.R) fun (c93 : (Bool × Unit)) =>
                                    c = ((c93).1, ())) (
                                    c = (false, ())))) (
                                optAll (hist_Ahead.R z40 z41 z42 z43 z44 z45 z46 z47 z48 z49 z50 z51 z52 z53 z54 z40 z41 z42 z43 z44 z45 z46 z47 z48 z49 z50 z51 z52 z53 z54) fun (c94 : (Bool × Unit)) =>
                                cond ((!(c94).1)) (
                                  optAll (law18_live.R) fun (c95 : (Bool × Unit)) =>
                                  c = ((c95).1, ())) (
                                  c = (false, ())))))) (
                          optAll (hist_Ahead.R z40 z41 z42 z43 z44 z45 z46 z47 z48 z49 z50 z51 z52 z53 z54 z40 z41 z42 z43 z44 z45 z46 z47 z48 z49 z50 z51 z52 z53 z54) fun (c96 : (Bool × Unit)) =>
                          cond ((!(c96).1)) (
                            optAll (law18_live.R) fun (c97 : (Bool × Unit)) =>
                            c = ((c97).1, ())) (
                            c = (false, ()))))) (
                      optAll (hist_Ahead.R z40 z41 z42 z43 z44 z45 z46 z47 z48 z49 z50 z51 z52 z53 z54 z56 z57 z58 z59 z60 z61 z62 z63 z64 z65 z66 z67 z68 z69 z70) fun (c98 : (Bool × Unit)) =>
                      cond ((c98).1) (
                        optAll (hist_Ahead.R z56 z57 z58 z59 z60 z61 z62 z63 z64 z65 z66 z67 z68 z69 z70 z40 z41 z42 z43 z44 z45 z46 z47 z48 z49 z50 z51 z52 z53 z54) fun (c99 : (Bool × Unit)) =>
                        cond ((c99).1) (
                          c = (false, ())) (
                          cond (decide ((x1 ≥ x2))) (
                            c = (false, ())) (
                            optAll (hist_Ahead.R z56 z57 z58 z59 z60 z61 z62 z63 z64 z65 z66 z67 z68 z69 z70 z72 z73 z74 z75 z76 z77 z78 z79 z80 z81 z82 z83 z84 z85 z86) fun (c100 : (Bool × Unit)) =>
                            cond ((c100).1) (
                              optAll (hist_Ahead.R z40 z41 z42 z43 z44 z45 z46 z47 z48 z49 z50 z51 z52 z53 z54 z72 z73 z74 z75 z76 z77 z78 z79 z80 z81 z82 z83 z84 z85 z86) fun (c101 : (Bool × Unit)) =>
                              cond ((!(c101).1)) (
                                c = (false, ())) (
                                optAll (hist_Ahead.R z40 z41 z42 z43 z44 z45 z46 z47 z48 z49 z50 z51 z52 z53 z54 z40 z41 z42 z43 z44 z45 z46 z47 z48 z49 z50 z51 z52 z53 z54) fun (c102 : (Bool × Unit)) =>
                                cond ((!(c102).1)) (
                                  optAll (law18_live.R) fun (c103 : (Bool × Unit)) =>
                                  c = ((c103).1, ())) (
                                  c = (false, ())))) (
                              optAll (hist_Ahead.R z40 z41 z42 z43 z44 z45 z46 z47 z48 z49 z50 z51 z52 z53 z54 z40 z41 z42 z43 z44 z45 z46 z47 z48 z49 z50 z51 z52 z53 z54) fun (c104 : (Bool × Unit)) =>
                              cond ((!(c104).1)) (
                                optAll (law18_live.R) fun (c105 : (Bool × Unit)) =>
                                c = ((c105).1, ())) (
                                c = (false, ())))))) (
                        optAll (hist_Ahead.R z40 z41 z42 z43 z44 z45 z46 z47 z48 z49 z50 z51 z52 z53 z54 z40 z41 z42 z43 z44 z45 z46 z47 z48 z49 z50 z51 z52 z53 z54) fun (c106 : (Bool × Unit)) =>
                        cond ((!(c106).1)) (
                          optAll (law18_live.R) fun (c107 : (Bool × Unit)) =>
                          c = ((c107).1, ())) (
                          c = (false, ()))))) (
                    optAll (hist_Ahead.R z40 z41 z42 z43 z44 z45 z46 z47 z48 z49 z50 z51 z52 z53 z54 z56 z57 z58 z59 z60 z61 z62 z63 z64 z65 z66 z67 z68 z69 z70) fun (c108 : (Bool × Unit)) =>
                    cond ((c108).1) (
                      optAll (hist_Ahead.R z56 z57 z58 z59 z60 z61 z62 z63 z64 z65 z66 z67 z68 z69 z70 z40 z41 z42 z43 z44 z45 z46 z47 z48 z49 z50 z51 z52 z53 z54) fun (c109 : (Bool × Unit)) =>
                      cond ((c109).1) (
                        c = (false, ())) (
                        cond (decide ((x1 ≥ x2))) (
                          c = (false, ())) (
                          optAll (hist_Ahead.R z56 z57 z58 z59 z60 z61 z62 z63 z64 z65 z66 z67 z68 z69 z70 z72 z73 z74 z75 z76 z77 z78 z79 z80 z81 z82 z83 z84 z85 z86) fun (c110 : (Bool × Unit)) =>
                          cond ((c110).1) (
                            optAll (hist_Ahead.R z40 z41 z42 z43 z44 z45 z46 z47 z48 z49 z50 z51 z52 z53 z54 z72 z73 z74 z75 z76 z77 z78 z79 z80 z81 z82 z83 z84 z85 z86) fun (c111 : (Bool × Unit)) =>
                            cond ((!(c111).1)) (
                              c = (false, ())) (
                              optAll (hist_Ahead.R z40 z41 z42 z43 z44 z45 z46 z47 z48 z49 z50 z51 z52 z53 z54 z40 z41 z42 z43 z44 z45 z46 z47 z48 z49 z50 z51 z52 z53 z54) fun (c112 : (Bool × Unit)) =>
                              cond ((!(c112).1)) (
                                optAll (law18_live.R) fun (c113 : (Bool × Unit)) =>
                                c = ((c113).1, ())) (
                                c = (false, ())))) (
                            optAll (hist_Ahead.R z40 z41 z42 z43 z44 z45 z46 z47 z48 z49 z50 z51 z52 z53 z54 z40 z41 z42 z43 z44 z45 z46 z47 z48 z49 z50 z51 z52 z53 z54) fun (c114 : (Bool × Unit)) =>
                            cond ((!(c114).1)) (
                              optAll (law18_live.R) fun (c115 : (Bool × Unit)) =>
                              c = ((c115).1, ())) (
                              c = (false, ())))))) (
                      optAll (hist_Ahead.R z40 z41 z42 z43 z44 z45 z46 z47 z48 z49 z50 z51 z52 z53 z54 z40 z41 z42 z43 z44 z45 z46 z47 z48 z49 z50 z51 z52 z53 z54) fun (c116 : (Bool × Unit)) =>
                      cond ((!(c116).1)) (
                        optAll (law18_live.R) fun (c117 : (Bool × Unit)) =>
                        c = ((c117).1, ())) (
                        c = (false, ()))))))))))))))) : H6 x0 x1 x2 x3 x10 b215 b215_1 c := head_rule (n := 400) (noSum_ok _) (by kernel_rfl) h
end law18_HistOrder
/-! garrison/garrisonlaw18.HistOnce -/
namespace law18_HistOnce
def lv : Live := [((6, 1048576), [0, 1, 5, 6], [235]), ((18, 2097152), [1, 5, 13, 14], [235])]
abbrev H6 (x0 : List (List DV)) (x1 : Int) (x6 : Int) (b235 : List (List DV)) (b235_1 : List (List DV)) (c : (Bool × Unit)) : Prop := HeadAns cfg 6 sh lv (bd cfg 6 [1, 1, 1, 0, 1, 0, 0]) 1048576 [.inBlock 0, .code (bd cfg 6 [1, 1, 1, 1])]
  [(AV.d (DV.lst 27 x0)), (AV.d (DV.v (Value.int IntKind.i64 x1))), (AV.ptr 235 0 0 0), (AV.d (DV.v (Value.int IntKind.i64 x6)))] [(Option.some (VBlk.cell 2 0 [(AV.d (DV.lst 15 b235)), (AV.d (DV.lst 12 b235_1))]))] 1048576 c
abbrev H18 (x1 : Int) (x13 : Int) (x14 : Int) (b235 : List (List DV)) (b235_1 : List (List DV)) (c : (Bool × Unit)) : Prop := HeadAns cfg 6 sh lv (bd cfg 6 [1, 1, 1, 1, 1, 0, 1, 0, 0]) 2097152 [.inBlock 2, .code (bd cfg 6 [1, 1, 1, 1, 1, 1])]
  [(AV.d (DV.v (Value.int IntKind.i64 x1))), (AV.ptr 235 0 0 0), (AV.d (DV.v (Value.int IntKind.i64 x13))), (AV.d (DV.v (Value.int IntKind.i64 x14)))] [(Option.some (VBlk.cell 2 0 [(AV.d (DV.lst 15 b235)), (AV.d (DV.lst 12 b235_1))]))] 2097152 c
theorem start (a0 : List (List DV)) (a1 : Int) (c : (Bool × Unit)) (h :
    cond (decide (((((a0).length : Nat) : Int) > (60 : Int)))) (
      optAll (law18_live.R) fun (c0 : (Bool × Unit)) =>
      c = ((c0).1, ())) (
      H6 a0 a1 (0 : Int) [] [] c)) : R a0 a1 = some c := start_rule (n := 400) (lv := lv) (noSum_ok _) (by kernel_rfl) h
theorem H6_step (x0 : List (List DV)) (x1 : Int) (x6 : Int) (b235 : List (List DV)) (b235_1 : List (List DV)) (c : (Bool × Unit)) (h :
    cond (decide ((x6 < (((x0).length : Nat) : Int)))) (
      needs ((0 : Int) ≤ x6) (
      optAll ((x0)[(Int.toNat x6)]?) fun (r1 : List DV) =>
      optAll ((dLst 5 r1 26)) fun (l2 : List (List DV)) =>
      cond (decide (((((l2).length : Nat) : Int) > (10 : Int)))) (
        optAll (law18_live.R) fun (c3 : (Bool × Unit)) =>
        c = ((c3).1, ())) (
        needs ((0 : Int) ≤ x6) (
        optAll ((x0)[(Int.toNat x6)]?) fun (r4 : List DV) =>
        optAll ((dInt IntKind.i64 r4 1)) fun (z5 : Int) =>
        optAll (hist_Pending.R b235 b235_1 z5) fun (c6 : (Int × (Bool × Unit))) =>
        needs ((0 : Int) ≤ x6) (
        optAll ((x0)[(Int.toNat x6)]?) fun (r7 : List DV) =>
        optAll ((dInt IntKind.i64 r7 0)) fun (z8 : Int) =>
        optAll ((dInt IntKind.i64 r7 1)) fun (z9 : Int) =>
        optAll ((dInt IntKind.i64 r7 2)) fun (z10 : Int) =>
        optAll ((dInt IntKind.i64 r7 3)) fun (z11 : Int) =>
        optAll ((dInt IntKind.u64 r7 4)) fun (z12 : Int) =>
        optAll ((dInt IntKind.u64 r7 5)) fun (z13 : Int) =>
        optAll ((dInt IntKind.i64 r7 6)) fun (z14 : Int) =>
        optAll ((dInt IntKind.i64 r7 7)) fun (z15 : Int) =>
        optAll ((dInt IntKind.i64 r7 8)) fun (z16 : Int) =>
        optAll ((dInt IntKind.i64 r7 9)) fun (z17 : Int) =>
        optAll ((dInt IntKind.i64 r7 10)) fun (z18 : Int) =>
        optAll ((dInt IntKind.i64 r7 11)) fun (z19 : Int) =>
        optAll ((dInt IntKind.i64 r7 12)) fun (z20 : Int) =>
        optAll ((dInt IntKind.i64 r7 13)) fun (z21 : Int) =>
        optAll ((dBool r7 14)) fun (z22 : Bool) =>
        optAll ((dInt IntKind.i64 r7 15)) fun (z23 : Int) =>
        optAll ((dInt IntKind.i64 r7 16)) fun (z24 : Int) =>
        optAll ((dInt IntKind.i64 r7 17)) fun (z25 : Int) =>
        optAll ((dInt IntKind.u64 r7 18)) fun (z26 : Int) =>
        optAll ((dInt IntKind.u64 r7 19)) fun (z27 : Int) =>
        optAll ((dInt IntKind.i64 r7 20)) fun (z28 : Int) =>
        optAll ((dInt IntKind.i64 r7 21)) fun (z29 : Int) =>
        optAll ((dInt IntKind.i64 r7 22)) fun (z30 : Int) =>
        optAll ((dInt IntKind.i64 r7 23)) fun (z31 : Int) =>
        optAll ((dInt IntKind.i64 r7 24)) fun (z32 : Int) =>
        optAll ((dInt IntKind.i64 r7 25)) fun (z33 : Int) =>
        optAll ((dLst 5 r7 26)) fun (l34 : List (List DV)) =>
        optAll (law18_does.R b235 b235_1 z8 z9 z10 z11 z12 z13 z14 z15 z16 z17 z18 z19 z20 z21 z22 z23 z24 z25 z26 z27 z28 z29 z30 z31 z32 z33 l34) fun (c35 : ((List (List DV) × (List (List DV) × Unit)) × (Int × Unit))) =>
        needs ((0 : Int) ≤ x6) (
        optAll ((x0)[(Int.toNat x6)]?) fun (r36 : List DV) =>
        optAll ((dInt IntKind.i64 r36 1)) fun (z37 : Int) =>
        optAll (hist_Pending.R ((c35).1).1 (((c35).1).2).1 z37) fun (c38 : (Int × (Bool × Unit))) =>
        needs ((0 : Int) ≤ x6) (
        optAll ((x0)[(Int.toNat x6)]?) fun (r39 : List DV) =>
        optAll ((dInt IntKind.i64 r39 0)) fun (z40 : Int) =>
        cond ((z40 == (0 : Int))) (
          cond ((((c35).2).1 == (0 : Int))) (
            cond (((c6).2).1) (
              c = (false, ())) (
              cond ((!((c38).2).1)) (
                c = (false, ())) (
                needs ((0 : Int) ≤ x6) (
                optAll ((x0)[(Int.toNat x6)]?) fun (r41 : List DV) =>
                optAll ((dInt IntKind.i64 r41 0)) fun (z42 : Int) =>
                cond ((z42 == (1 : Int))) (
                  cond ((((c35).2).1 == (0 : Int))) (
                    cond ((!((c6).2).1)) (
                      c = (false, ())) (
                      cond (((c38).2).1) (
                        c = (false, ())) (
                        cond ((((c35).2).1 != (0 : Int))) (
                          cond ((!(((c38).2).1 == ((c6).2).1))) (
                            c = (false, ())) (
                            H6 x0 x1 (IntKind.i64.wrap (x6 + (1 : Int))) ((c35).1).1 (((c35).1).2).1 c)) (
                          H6 x0 x1 (IntKind.i64.wrap (x6 + (1 : Int))) ((c35).1).1 (((c35).1).2).1 c)))) (
                    cond ((((c35).2).1 != (0 : Int))) (
                      cond ((!(((c38).2).1 == ((c6).2).1))) (
                        c = (false, ())) (
                        H6 x0 x1 (IntKind.i64.wrap (x6 + (1 : Int))) ((c35).1).1 (((c35).1).2).1 c)) (
                      H6 x0 x1 (IntKind.i64.wrap (x6 + (1 : Int))) ((c35).1).1 (((c35).1).2).1 c))) (
                  cond ((((c35).2).1 != (0 : Int))) (
                    cond ((!(((c38).2).1 == ((c6).2).1))) (
                      c = (false, ())) (
                      H6 x0 x1 (IntKind.i64.wrap (x6 + (1 : Int))) ((c35).1).1 (((c35).1).2).1 c)) (
                    H6 x0 x1 (IntKind.i64.wrap (x6 + (1 : Int))) ((c35).1).1 (((c35).1).2).1 c)))))) (
            needs ((0 : Int) ≤ x6) (
            optAll ((x0)[(Int.toNat x6)]?) fun (r43 : List DV) =>
            optAll ((dInt IntKind.i64 r43 0)) fun (z44 : Int) =>
            cond ((z44 == (1 : Int))) (
              cond ((((c35).2).1 == (0 : Int))) (
                cond ((!((c6).2).1)) (
                  c = (false, ())) (
                  cond (((c38).2).1) (
                    c = (false, ())) (
                    cond ((((c35).2).1 != (0 : Int))) (
                      cond ((!(((c38).2).1 == ((c6).2).1))) (
                        c = (false, ())) (
                        H6 x0 x1 (IntKind.i64.wrap (x6 + (1 : Int))) ((c35).1).1 (((c35).1).2).1 c)) (
                      H6 x0 x1 (IntKind.i64.wrap (x6 + (1 : Int))) ((c35).1).1 (((c35).1).2).1 c)))) (
                cond ((((c35).2).1 != (0 : Int))) (
                  cond ((!(((c38).2).1 == ((c6).2).1))) (
                    c = (false, ())) (
                    H6 x0 x1 (IntKind.i64.wrap (x6 + (1 : Int))) ((c35).1).1 (((c35).1).2).1 c)) (
                  H6 x0 x1 (IntKind.i64.wrap (x6 + (1 : Int))) ((c35).1).1 (((c35).1).2).1 c))) (
              cond ((((c35).2).1 != (0 : Int))) (
                cond ((!(((c38).2).1 == ((c6).2).1))) (
                  c = (false, ())) (
                  H6 x0 x1 (IntKind.i64.wrap (x6 + (1 : Int))) ((c35).1).1 (((c35).1).2).1 c)) (
                H6 x0 x1 (IntKind.i64.wrap (x6 + (1 : Int))) ((c35).1).1 (((c35).1).2).1 c))))) (
          needs ((0 : Int) ≤ x6) (
          optAll ((x0)[(Int.toNat x6)]?) fun (r45 : List DV) =>
          optAll ((dInt IntKind.i64 r45 0)) fun (z46 : Int) =>
          cond ((z46 == (1 : Int))) (
            cond ((((c35).2).1 == (0 : Int))) (
              cond ((!((c6).2).1)) (
                c = (false, ())) (
                cond (((c38).2).1) (
                  c = (false, ())) (
                  cond ((((c35).2).1 != (0 : Int))) (
                    cond ((!(((c38).2).1 == ((c6).2).1))) (
                      c = (false, ())) (
                      H6 x0 x1 (IntKind.i64.wrap (x6 + (1 : Int))) ((c35).1).1 (((c35).1).2).1 c)) (
                    H6 x0 x1 (IntKind.i64.wrap (x6 + (1 : Int))) ((c35).1).1 (((c35).1).2).1 c)))) (
              cond ((((c35).2).1 != (0 : Int))) (
                cond ((!(((c38).2).1 == ((c6).2).1))) (
                  c = (false, ())) (
                  H6 x0 x1 (IntKind.i64.wrap (x6 + (1 : Int))) ((c35).1).1 (((c35).1).2).1 c)) (
                H6 x0 x1 (IntKind.i64.wrap (x6 + (1 : Int))) ((c35).1).1 (((c35).1).2).1 c))) (
            cond ((((c35).2).1 != (0 : Int))) (
              cond ((!(((c38).2).1 == ((c6).2).1))) (
                c = (false, ())) (
                H6 x0 x1 (IntKind.i64.wrap (x6 + (1 : Int))) ((c35).1).1 (((c35).1).2).1 c)) (
              H6 x0 x1 (IntKind.i64.wrap (x6 + (1 : Int))) ((c35).1).1 (((c35).1).2).1 c))))))))))) (
      H18 x1 (0 : Int) (0 : Int) b235 b235_1 c)) : H6 x0 x1 x6 b235 b235_1 c := head_rule (n := 400) (noSum_ok _) (by kernel_rfl) h
theorem H18_step (x1 : Int) (x13 : Int) (x14 : Int) (b235 : List (List DV)) (b235_1 : List (List DV)) (c : (Bool × Unit)) (h :
    cond (decide ((x14 < (((b235).length : Nat) : Int)))) (
      needs ((0 : Int) ≤ x14) (
      optAll ((b235)[(Int.toNat x14)]?) fun (r47 : List DV) =>
      optAll ((dInt IntKind.i64 r47 0)) fun (z48 : Int) =>
      cond ((z48 == x1)) (
        needs ((0 : Int) ≤ x14) (
        optAll ((b235)[(Int.toNat x14)]?) fun (r49 : List DV) =>
        optAll ((dInt IntKind.i64 r49 10)) fun (z50 : Int) =>
        cond ((z50 == (0 : Int))) (
          H18 x1 (IntKind.i64.wrap (x13 + (1 : Int))) (IntKind.i64.wrap (x14 + (1 : Int))) b235 b235_1 c) (
          H18 x1 x13 (IntKind.i64.wrap (x14 + (1 : Int))) b235 b235_1 c))) (
        H18 x1 x13 (IntKind.i64.wrap (x14 + (1 : Int))) b235 b235_1 c))) (
      optAll (hist_Pending.R b235 b235_1 x1) fun (c51 : (Int × (Bool × Unit))) =>
      cond ((((c51).2).1 == (x13 == (1 : Int)))) (
        cond (decide ((x13 ≤ (1 : Int)))) (
          optAll (law18_live.R) fun (c52 : (Bool × Unit)) =>
          c = ((c52).1, ())) (
          c = (false, ()))) (
        c = (false, ())))) : H18 x1 x13 x14 b235 b235_1 c := head_rule (n := 400) (noSum_ok _) (by kernel_rfl) h
end law18_HistOnce
/-! garrison/garrisonlaw18.HistSpans -/
namespace law18_HistSpans
def lv : Live := [((6, 1048576), [0, 1, 4, 5, 8, 9, 13, 14], [156, 172, 460]), ((19, 2097152), [13, 17, 18, 20], [460, 1049088])]
abbrev H6 (x0 : List (List DV)) (x1 : Int) (x4 : Int) (x5 : Int) (x14 : Int) (b156 : Int) (b156_1 : Int) (b156_2 : Int) (b156_3 : Int) (b156_4 : Int) (b156_5 : Int) (b156_6 : Int) (b156_7 : Int) (b172 : Int) (b172_1 : Int) (b172_2 : Int) (b172_3 : Bool) (b460 : List (List DV)) (b460_1 : List (List DV)) (c : (Bool × Unit)) : Prop := HeadAns cfg 7 sh lv (bd cfg 7 [1, 1, 1, 0, 1, 0, 0]) 1048576 [.inBlock 0, .code (bd cfg 7 [1, 1, 1, 1])]
  [(AV.d (DV.lst 27 x0)), (AV.d (DV.v (Value.int IntKind.i64 x1))), (AV.d (DV.v (Value.int IntKind.i64 x4))), (AV.d (DV.v (Value.int IntKind.i64 x5))), (AV.ptr 156 0 0 0), (AV.ptr 172 0 0 0), (AV.ptr 460 0 0 0), (AV.d (DV.v (Value.int IntKind.i64 x14)))] [(Option.some (VBlk.cell 8 0 [(AV.d (DV.v (Value.int IntKind.i64 b156))), (AV.d (DV.v (Value.int IntKind.u64 b156_1))), (AV.d (DV.v (Value.int IntKind.u64 b156_2))), (AV.d (DV.v (Value.int IntKind.i64 b156_3))), (AV.d (DV.v (Value.int IntKind.i64 b156_4))), (AV.d (DV.v (Value.int IntKind.i64 b156_5))), (AV.d (DV.v (Value.int IntKind.i64 b156_6))), (AV.d (DV.v (Value.int IntKind.i64 b156_7)))])), (Option.some (VBlk.cell 4 0 [(AV.d (DV.v (Value.int IntKind.i64 b172))), (AV.d (DV.v (Value.int IntKind.i64 b172_1))), (AV.d (DV.v (Value.int IntKind.i64 b172_2))), (AV.d (DV.v (Value.bool b172_3)))])), (Option.some (VBlk.cell 2 0 [(AV.d (DV.lst 15 b460)), (AV.d (DV.lst 12 b460_1))]))] 1048576 c
abbrev H19 (x17 : Int) (x20 : Int) (b460 : List (List DV)) (b460_1 : List (List DV)) (b1049088 : List (List DV)) (b1049088_1 : List (List DV)) (c : (Bool × Unit)) : Prop := HeadAns cfg 7 sh lv (bd cfg 7 [1, 1, 1, 1, 1, 1, 1, 1, 1, 0, 1, 0, 0]) 2097152 [.inBlock 2, .code (bd cfg 7 [1, 1, 1, 1, 1, 1, 1, 1, 1, 1])]
  [(AV.ptr 460 0 0 0), (AV.d (DV.v (Value.int IntKind.i64 x17))), (AV.ptr 1049088 0 0 0), (AV.d (DV.v (Value.int IntKind.i64 x20)))] [(Option.some (VBlk.cell 2 0 [(AV.d (DV.lst 15 b460)), (AV.d (DV.lst 12 b460_1))])), (Option.some (VBlk.cell 2 0 [(AV.d (DV.lst 15 b1049088)), (AV.d (DV.lst 12 b1049088_1))]))] 2097152 c
theorem start (a0 : List (List DV)) (a1 : Int) (a2_0 : Int) (a2_1 : Int) (a2_2 : Int) (a2_3 : Int) (a2_4 : Int) (a2_5 : Int) (a2_6 : Int) (a2_7 : Int) (a3_0 : Int) (a3_1 : Int) (a3_2 : Int) (a3_3 : Bool) (a4 : Int) (a5 : Int) (c : (Bool × Unit)) (h :
    cond (decide (((((a0).length : Nat) : Int) > (60 : Int)))) (
      optAll (law18_live.R) fun (c0 : (Bool × Unit)) =>
      c = ((c0).1, ())) (
      cond (decide ((a5 < (0 : Int)))) (
        optAll (law18_live.R) fun (c1 : (Bool × Unit)) =>
        c = ((c1).1, ())) (
        cond (decide ((a5 > (1000 : Int)))) (
          optAll (law18_live.R) fun (c2 : (Bool × Unit)) =>
          c = ((c2).1, ())) (
          cond (decide ((a4 > (1000000 : Int)))) (
            optAll (law18_live.R) fun (c3 : (Bool × Unit)) =>
            c = ((c3).1, ())) (
            H6 a0 a1 a4 a5 (0 : Int) a2_0 a2_1 a2_2 a2_3 a2_4 a2_5 a2_6 a2_7 a3_0 a3_1 a3_2 a3_3 [] [] c))))) : R a0 a1 a2_0 a2_1 a2_2 a2_3 a2_4 a2_5 a2_6 a2_7 a3_0 a3_1 a3_2 a3_3 a4 a5 = some c := start_rule (n := 400) (lv := lv) (noSum_ok _) (by kernel_rfl) h
theorem H6_step (x0 : List (List DV)) (x1 : Int) (x4 : Int) (x5 : Int) (x14 : Int) (b156 : Int) (b156_1 : Int) (b156_2 : Int) (b156_3 : Int) (b156_4 : Int) (b156_5 : Int) (b156_6 : Int) (b156_7 : Int) (b172 : Int) (b172_1 : Int) (b172_2 : Int) (b172_3 : Bool) (b460 : List (List DV)) (b460_1 : List (List DV)) (c : (Bool × Unit)) (h :
    cond (decide ((x14 < (((x0).length : Nat) : Int)))) (
      needs ((0 : Int) ≤ x14) (
      optAll ((x0)[(Int.toNat x14)]?) fun (r4 : List DV) =>
      optAll ((dLst 5 r4 26)) fun (l5 : List (List DV)) =>
      cond (decide (((((l5).length : Nat) : Int) > (10 : Int)))) (
        optAll (law18_live.R) fun (c6 : (Bool × Unit)) =>
        c = ((c6).1, ())) (
        needs ((0 : Int) ≤ x14) (
        optAll ((x0)[(Int.toNat x14)]?) fun (r7 : List DV) =>
        optAll ((dInt IntKind.i64 r7 0)) fun (z8 : Int) =>
        optAll ((dInt IntKind.i64 r7 1)) fun (z9 : Int) =>
        optAll ((dInt IntKind.i64 r7 2)) fun (z10 : Int) =>
        optAll ((dInt IntKind.i64 r7 3)) fun (z11 : Int) =>
        optAll ((dInt IntKind.u64 r7 4)) fun (z12 : Int) =>
        optAll ((dInt IntKind.u64 r7 5)) fun (z13 : Int) =>
        optAll ((dInt IntKind.i64 r7 6)) fun (z14 : Int) =>
        optAll ((dInt IntKind.i64 r7 7)) fun (z15 : Int) =>
        optAll ((dInt IntKind.i64 r7 8)) fun (z16 : Int) =>
        optAll ((dInt IntKind.i64 r7 9)) fun (z17 : Int) =>
        optAll ((dInt IntKind.i64 r7 10)) fun (z18 : Int) =>
        optAll ((dInt IntKind.i64 r7 11)) fun (z19 : Int) =>
        optAll ((dInt IntKind.i64 r7 12)) fun (z20 : Int) =>
        optAll ((dInt IntKind.i64 r7 13)) fun (z21 : Int) =>
        optAll ((dBool r7 14)) fun (z22 : Bool) =>
        optAll ((dInt IntKind.i64 r7 15)) fun (z23 : Int) =>
        optAll ((dInt IntKind.i64 r7 16)) fun (z24 : Int) =>
        optAll ((dInt IntKind.i64 r7 17)) fun (z25 : Int) =>
        optAll ((dInt IntKind.u64 r7 18)) fun (z26 : Int) =>
        optAll ((dInt IntKind.u64 r7 19)) fun (z27 : Int) =>
        optAll ((dInt IntKind.i64 r7 20)) fun (z28 : Int) =>
        optAll ((dInt IntKind.i64 r7 21)) fun (z29 : Int) =>
        optAll ((dInt IntKind.i64 r7 22)) fun (z30 : Int) =>
        optAll ((dInt IntKind.i64 r7 23)) fun (z31 : Int) =>
        optAll ((dInt IntKind.i64 r7 24)) fun (z32 : Int) =>
        optAll ((dInt IntKind.i64 r7 25)) fun (z33 : Int) =>
        optAll ((dLst 5 r7 26)) fun (l34 : List (List DV)) =>
        optAll (law18_does.R b460 b460_1 z8 z9 z10 z11 z12 z13 z14 z15 z16 z17 z18 z19 z20 z21 z22 z23 z24 z25 z26 z27 z28 z29 z30 z31 z32 z33 l34) fun (c35 : ((List (List DV) × (List (List DV) × Unit)) × (Int × Unit))) =>
        H6 x0 x1 x4 x5 (IntKind.i64.wrap (x14 + (1 : Int))) b156 b156_1 b156_2 b156_3 b156_4 b156_5 b156_6 b156_7 b172 b172_1 b172_2 b172_3 ((c35).1).1 (((c35).1).2).1 c)))) (
      optAll (hist_Invoke.R b460 b460_1 x1 b156 b156_1 b156_2 b156_3 b156_4 b156_5 b156_6 b156_7 x4) fun (c36 : ((List (List DV) × (List (List DV) × Unit)) × (Int × Unit))) =>
      optAll (law18_num.R ((c36).2).1) fun (c37 : (Int × Unit)) =>
      cond (((c37).1 != (0 : Int))) (
        optAll (hist_Same.R b460 b460_1 ((c36).1).1 (((c36).1).2).1) fun (c38 : (Bool × Unit)) =>
        cond ((c38).1) (
          optAll (law18_live.R) fun (c39 : (Bool × Unit)) =>
          c = ((c39).1, ())) (
          c = (false, ()))) (
        optAll (hist_Answer.R ((c36).1).1 (((c36).1).2).1 x1 b172 b172_1 b172_2 b172_3 (IntKind.i64.wrap (x4 + x5))) fun (c40 : ((List (List DV) × (List (List DV) × Unit)) × (Int × Unit))) =>
        optAll (law18_num.R ((c40).2).1) fun (c41 : (Int × Unit)) =>
        cond (((c41).1 != (0 : Int))) (
          c = (false, ())) (
          cond (((((((c36).1).1).length : Nat) : Int) != (IntKind.i64.wrap ((((b460).length : Nat) : Int) + (1 : Int))))) (
            c = (false, ())) (
            cond (((((((c40).1).1).length : Nat) : Int) != (IntKind.i64.wrap ((((b460).length : Nat) : Int) + (1 : Int))))) (
              c = (false, ())) (
              optAll ((((c36).1).1)[(Int.toNat (((b460).length : Nat) : Int))]?) fun (r42 : List DV) =>
              optAll ((dInt IntKind.i64 r42 0)) fun (z43 : Int) =>
              optAll ((dInt IntKind.i64 r42 1)) fun (z44 : Int) =>
              optAll ((dInt IntKind.u64 r42 2)) fun (z45 : Int) =>
              optAll ((dInt IntKind.u64 r42 3)) fun (z46 : Int) =>
              optAll ((dInt IntKind.i64 r42 4)) fun (z47 : Int) =>
              optAll ((dInt IntKind.i64 r42 5)) fun (z48 : Int) =>
              optAll ((dInt IntKind.i64 r42 6)) fun (z49 : Int) =>
              optAll ((dInt IntKind.i64 r42 7)) fun (z50 : Int) =>
              optAll ((dInt IntKind.i64 r42 8)) fun (z51 : Int) =>
              optAll ((dInt IntKind.i64 r42 9)) fun (z52 : Int) =>
              optAll ((dInt IntKind.i64 r42 10)) fun (z53 : Int) =>
              optAll ((dInt IntKind.i64 r42 11)) fun (z54 : Int) =>
              optAll ((dInt IntKind.i64 r42 12)) fun (z55 : Int) =>
              optAll ((dInt IntKind.i64 r42 13)) fun (z56 : Int) =>
              optAll ((dBool r42 14)) fun (z57 : Bool) =>
              cond ((!((z43 == x1) && ((z44 == b156) && ((z45 == b156_1) && ((z46 == b156_2) && ((z47 == b156_3) && ((z48 == b156_4) && ((z49 == b156_5) && ((z50 == b156_6) && ((z51 == b156_7) && ((z52 == x4) && ((z53 == (0 : Int)) && ((z54 == (0 : Int)) && ((z55 == (0 : Int)) && ((z56 == (0 : Int)) && ((z57 == false) && true))))))))))))))))) (
                c = (false, ())) (
                optAll ((((c40).1).1)[(Int.toNat (((b460).length : Nat) : Int))]?) fun (r58 : List DV) =>
                optAll ((dInt IntKind.i64 r58 0)) fun (z59 : Int) =>
                optAll ((dInt IntKind.i64 r58 1)) fun (z60 : Int) =>
                optAll ((dInt IntKind.u64 r58 2)) fun (z61 : Int) =>
                optAll ((dInt IntKind.u64 r58 3)) fun (z62 : Int) =>
                optAll ((dInt IntKind.i64 r58 4)) fun (z63 : Int) =>
                optAll ((dInt IntKind.i64 r58 5)) fun (z64 : Int) =>
                optAll ((dInt IntKind.i64 r58 6)) fun (z65 : Int) =>
                optAll ((dInt IntKind.i64 r58 7)) fun (z66 : Int) =>
                optAll ((dInt IntKind.i64 r58 8)) fun (z67 : Int) =>
                optAll ((dInt IntKind.i64 r58 9)) fun (z68 : Int) =>
                optAll ((dInt IntKind.i64 r58 10)) fun (z69 : Int) =>
                optAll ((dInt IntKind.i64 r58 11)) fun (z70 : Int) =>
                optAll ((dInt IntKind.i64 r58 12)) fun (z71 : Int) =>
                optAll ((dInt IntKind.i64 r58 13)) fun (z72 : Int) =>
                optAll ((dBool r58 14)) fun (z73 : Bool) =>
                cond ((!((z59 == x1) && ((z60 == b156) && ((z61 == b156_1) && ((z62 == b156_2) && ((z63 == b156_3) && ((z64 == b156_4) && ((z65 == b156_5) && ((z66 == b156_6) && ((z67 == b156_7) && ((z68 == x4) && ((z69 == (IntKind.i64.wrap (x4 + x5))) && ((z70 == b172) && ((z71 == b172_1) && ((z72 == b172_2) && ((z73 == b172_3) && true))))))))))))))))) (
                  c = (false, ())) (
                  H19 (((b460).length : Nat) : Int) (0 : Int) b460 b460_1 ((c40).1).1 (((c40).1).2).1 c)))))))) : H6 x0 x1 x4 x5 x14 b156 b156_1 b156_2 b156_3 b156_4 b156_5 b156_6 b156_7 b172 b172_1 b172_2 b172_3 b460 b460_1 c := head_rule (n := 400) (noSum_ok _) (by kernel_rfl) h
theorem H19_step (x17 : Int) (x20 : Int) (b460 : List (List DV)) (b460_1 : List (List DV)) (b1049088 : List (List DV)) (b1049088_1 : List (List DV)) (c : (Bool × Unit)) (h :
    cond (decide ((x20 < x17))) (
      needs ((0 : Int) ≤ x20) (
      optAll ((b1049088)[(Int.toNat x20)]?) fun (r74 : List DV) =>
      optAll ((dInt IntKind.i64 r74 0)) fun (z75 : Int) =>
      optAll ((dInt IntKind.i64 r74 1)) fun (z76 : Int) =>
      optAll ((dInt IntKind.u64 r74 2)) fun (z77 : Int) =>
      optAll ((dInt IntKind.u64 r74 3)) fun (z78 : Int) =>
      optAll ((dInt IntKind.i64 r74 4)) fun (z79 : Int) =>
      optAll ((dInt IntKind.i64 r74 5)) fun (z80 : Int) =>
      optAll ((dInt IntKind.i64 r74 6)) fun (z81 : Int) =>
      optAll ((dInt IntKind.i64 r74 7)) fun (z82 : Int) =>
      optAll ((dInt IntKind.i64 r74 8)) fun (z83 : Int) =>
      optAll ((dInt IntKind.i64 r74 9)) fun (z84 : Int) =>
      optAll ((dInt IntKind.i64 r74 10)) fun (z85 : Int) =>
      optAll ((dInt IntKind.i64 r74 11)) fun (z86 : Int) =>
      optAll ((dInt IntKind.i64 r74 12)) fun (z87 : Int) =>
      optAll ((dInt IntKind.i64 r74 13)) fun (z88 : Int) =>
      optAll ((dBool r74 14)) fun (z89 : Bool) =>
      needs ((0 : Int) ≤ x20) (
      optAll ((b460)[(Int.toNat x20)]?) fun (r90 : List DV) =>
      optAll ((dInt IntKind.i64 r90 0)) fun (z91 : Int) =>
      optAll ((dInt IntKind.i64 r90 1)) fun (z92 : Int) =>
      optAll ((dInt IntKind.u64 r90 2)) fun (z93 : Int) =>
      optAll ((dInt IntKind.u64 r90 3)) fun (z94 : Int) =>
      optAll ((dInt IntKind.i64 r90 4)) fun (z95 : Int) =>
      optAll ((dInt IntKind.i64 r90 5)) fun (z96 : Int) =>
      optAll ((dInt IntKind.i64 r90 6)) fun (z97 : Int) =>
      optAll ((dInt IntKind.i64 r90 7)) fun (z98 : Int) =>
      optAll ((dInt IntKind.i64 r90 8)) fun (z99 : Int) =>
      optAll ((dInt IntKind.i64 r90 9)) fun (z100 : Int) =>
      optAll ((dInt IntKind.i64 r90 10)) fun (z101 : Int) =>
      optAll ((dInt IntKind.i64 r90 11)) fun (z102 : Int) =>
      optAll ((dInt IntKind.i64 r90 12)) fun (z103 : Int) =>
      optAll ((dInt IntKind.i64 r90 13)) fun (z104 : Int) =>
      optAll ((dBool r90 14)) fun (z105 : Bool) =>
      cond ((!((z75 == z91) && ((z76 == z92) && ((z77 == z93) && ((z78 == z94) && ((z79 == z95) && ((z80 == z96) && ((z81 == z97) && ((z82 == z98) && ((z83 == z99) && ((z84 == z100) && ((z85 == z101) && ((z86 == z102) && ((z87 == z103) && ((z88 == z104) && ((z89 == z105) && true))))))))))))))))) (
        c = (false, ())) (
        H19 x17 (IntKind.i64.wrap (x20 + (1 : Int))) b460 b460_1 b1049088 b1049088_1 c)))) (
      optAll (law18_live.R) fun (c106 : (Bool × Unit)) =>
      c = ((c106).1, ()))) : H19 x17 x20 b460 b460_1 b1049088 b1049088_1 c := head_rule (n := 400) (noSum_ok _) (by kernel_rfl) h
end law18_HistSpans
/-! garrison/garrisonlaw18.small -/
namespace law18_small
def lv : Live := [((5, 1048576), [1, 3], [29])]
abbrev H5 (x3 : Int) (b29 : List (List DV)) (b29_1 : List (List DV)) (c : (Bool × Unit)) : Prop := HeadAns cfg 8 sh lv (bd cfg 8 [1, 1, 0, 1, 0, 0]) 1048576 [.inBlock 0, .code (bd cfg 8 [1, 1, 1])]
  [(AV.ptr 29 0 0 0), (AV.d (DV.v (Value.int IntKind.i64 x3)))] [(Option.some (VBlk.cell 2 0 [(AV.d (DV.lst 15 b29)), (AV.d (DV.lst 12 b29_1))]))] 1048576 c
theorem start (a0_0 : List (List DV)) (a0_1 : List (List DV)) (c : (Bool × Unit)) (h :
    cond (decide (((((a0_0).length : Nat) : Int) > (60 : Int)))) (
      c = (false, ())) (
      cond (decide (((((a0_1).length : Nat) : Int) > (60 : Int)))) (
        c = (false, ())) (
        H5 (0 : Int) a0_0 a0_1 c))) : R a0_0 a0_1 = some c := start_rule (n := 400) (lv := lv) (noSum_ok _) (by kernel_rfl) h
theorem H5_step (x3 : Int) (b29 : List (List DV)) (b29_1 : List (List DV)) (c : (Bool × Unit)) (h :
    cond (decide ((x3 < (((b29_1).length : Nat) : Int)))) (
      needs ((0 : Int) ≤ x3) (
      optAll ((b29_1)[(Int.toNat x3)]?) fun (r0 : List DV) =>
      optAll ((dLst 5 r0 11)) fun (l1 : List (List DV)) =>
      cond (decide (((((l1).length : Nat) : Int) > (10 : Int)))) (
        c = (false, ())) (
        H5 (IntKind.i64.wrap (x3 + (1 : Int))) b29 b29_1 c))) (
      c = (true, ()))) : H5 x3 b29 b29_1 c := head_rule (n := 400) (noSum_ok _) (by kernel_rfl) h
end law18_small
/-! garrison/garrisonlaw18.live -/
namespace law18_live
theorem closed : R = some (true, ()) := ret_closed (n := 4000) (v := .d (.v (.bool true))) (by kernel_rfl) (by kernel_rfl)
end law18_live
/-! garrison/garrisonlaw18.does -/
namespace law18_does
def lv : Live := []
theorem start (a0_0 : List (List DV)) (a0_1 : List (List DV)) (a1_0 : Int) (a1_1 : Int) (a1_2 : Int) (a1_3 : Int) (a1_4 : Int) (a1_5 : Int) (a1_6 : Int) (a1_7 : Int) (a1_8 : Int) (a1_9 : Int) (a1_10 : Int) (a1_11 : Int) (a1_12 : Int) (a1_13 : Int) (a1_14 : Bool) (a1_15 : Int) (a1_16 : Int) (a1_17 : Int) (a1_18 : Int) (a1_19 : Int) (a1_20 : Int) (a1_21 : Int) (a1_22 : Int) (a1_23 : Int) (a1_24 : Int) (a1_25 : Int) (a1_26 : List (List DV)) (c : ((List (List DV) × (List (List DV) × Unit)) × (Int × Unit))) (h :
    cond ((a1_0 == (0 : Int))) (
      optAll (hist_Invoke.R a0_0 a0_1 a1_1 a1_3 a1_4 a1_5 a1_6 a1_7 a1_8 a1_9 a1_10 a1_2) fun (c0 : ((List (List DV) × (List (List DV) × Unit)) × (Int × Unit))) =>
      optAll (law18_num.R ((c0).2).1) fun (c1 : (Int × Unit)) =>
      c = ((((c0).1).1, ((((c0).1).2).1, ())), ((c1).1, ()))) (
      cond ((a1_0 == (1 : Int))) (
        optAll (hist_Answer.R a0_0 a0_1 a1_1 a1_11 a1_12 a1_13 a1_14 a1_2) fun (c2 : ((List (List DV) × (List (List DV) × Unit)) × (Int × Unit))) =>
        optAll (law18_num.R ((c2).2).1) fun (c3 : (Int × Unit)) =>
        c = ((((c2).1).1, ((((c2).1).2).1, ())), ((c3).1, ()))) (
        optAll (hist_Note.R a0_0 a0_1 a1_15 a1_16 a1_17 a1_18 a1_19 a1_20 a1_21 a1_22 a1_23 a1_24 a1_25 a1_26) fun (c4 : ((List (List DV) × (List (List DV) × Unit)) × (Int × Unit))) =>
        optAll (law18_num.R ((c4).2).1) fun (c5 : (Int × Unit)) =>
        c = ((((c4).1).1, ((((c4).1).2).1, ())), ((c5).1, ()))))) : R a0_0 a0_1 a1_0 a1_1 a1_2 a1_3 a1_4 a1_5 a1_6 a1_7 a1_8 a1_9 a1_10 a1_11 a1_12 a1_13 a1_14 a1_15 a1_16 a1_17 a1_18 a1_19 a1_20 a1_21 a1_22 a1_23 a1_24 a1_25 a1_26 = some c := start_rule (n := 400) (lv := lv) (noSum_ok _) (by kernel_rfl) h
end law18_does
/-! garrison/garrisonlaw18.document -/
namespace law18_document
def lv : Live := []
theorem start (a0_0 : List (List DV)) (a0_1 : List (List DV)) (a1_0 : Int) (a1_1 : Int) (a1_2 : Int) (a1_3 : Int) (a1_4 : Int) (a1_5 : Int) (a1_6 : Int) (a1_7 : Int) (a1_8 : Int) (a1_9 : Int) (a1_10 : Int) (a1_11 : Int) (a1_12 : Int) (a1_13 : Int) (a1_14 : Bool) (a1_15 : Int) (a1_16 : Int) (a1_17 : Int) (a1_18 : Int) (a1_19 : Int) (a1_20 : Int) (a1_21 : Int) (a1_22 : Int) (a1_23 : Int) (a1_24 : Int) (a1_25 : Int) (a1_26 : List (List DV)) (c : ((List (List DV) × (List (List DV) × Unit)) × (Int × Unit))) (h :
    cond ((a1_0 == (0 : Int))) (
      optAll (ref18_Invoke.R a0_0 a0_1 a1_1 a1_3 a1_4 a1_5 a1_6 a1_7 a1_8 a1_9 a1_10 a1_2) fun (c0 : ((List (List DV) × (List (List DV) × Unit)) × (Int × Unit))) =>
      c = ((((c0).1).1, ((((c0).1).2).1, ())), (((c0).2).1, ()))) (
      cond ((a1_0 == (1 : Int))) (
        optAll (ref18_Answer.R a0_0 a0_1 a1_1 a1_11 a1_12 a1_13 a1_14 a1_2) fun (c1 : ((List (List DV) × (List (List DV) × Unit)) × (Int × Unit))) =>
        c = ((((c1).1).1, ((((c1).1).2).1, ())), (((c1).2).1, ()))) (
        optAll (ref18_Note.R a0_0 a0_1 a1_15 a1_16 a1_17 a1_18 a1_19 a1_20 a1_21 a1_22 a1_23 a1_24 a1_25 a1_26) fun (c2 : ((List (List DV) × (List (List DV) × Unit)) × (Int × Unit))) =>
        c = ((((c2).1).1, ((((c2).1).2).1, ())), (((c2).2).1, ()))))) : R a0_0 a0_1 a1_0 a1_1 a1_2 a1_3 a1_4 a1_5 a1_6 a1_7 a1_8 a1_9 a1_10 a1_11 a1_12 a1_13 a1_14 a1_15 a1_16 a1_17 a1_18 a1_19 a1_20 a1_21 a1_22 a1_23 a1_24 a1_25 a1_26 = some c := start_rule (n := 400) (lv := lv) (noSum_ok _) (by kernel_rfl) h
end law18_document
/-! garrison/hist.Pending -/
namespace hist_Pending
def lv : Live := []
theorem start (a0_0 : List (List DV)) (a0_1 : List (List DV)) (a1 : Int) (c : (Int × (Bool × Unit))) (h :
    optAll (hist_of.R a0_0 a1) fun (c0 : (Int × Unit)) =>
    cond (decide (((c0).1 < (0 : Int)))) (
      c = ((0 : Int), (false, ()))) (
      needs ((0 : Int) ≤ (c0).1) (
      optAll ((a0_0)[(Int.toNat (c0).1)]?) fun (r1 : List DV) =>
      optAll ((dInt IntKind.i64 r1 10)) fun (z2 : Int) =>
      cond ((z2 != (0 : Int))) (
        c = ((0 : Int), (false, ()))) (
        c = ((c0).1, (true, ())))))) : R a0_0 a0_1 a1 = some c := start_rule (n := 400) (lv := lv) (noSum_ok _) (by kernel_rfl) h
end hist_Pending
/-! garrison/garrisonref18.Pending -/
namespace ref18_Pending
def lv : Live := []
theorem start (a0_0 : List (List DV)) (a0_1 : List (List DV)) (a1 : Int) (c : (Int × (Bool × Unit))) (h :
    optAll (ref18_last.R a0_0 a1 (((a0_0).length : Nat) : Int)) fun (c0 : (Int × Unit)) =>
    cond (decide (((c0).1 < (0 : Int)))) (
      c = ((0 : Int), (false, ()))) (
      needs ((0 : Int) ≤ (c0).1) (
      optAll ((a0_0)[(Int.toNat (c0).1)]?) fun (r1 : List DV) =>
      optAll ((dInt IntKind.i64 r1 10)) fun (z2 : Int) =>
      cond ((z2 != (0 : Int))) (
        c = ((0 : Int), (false, ()))) (
        c = ((c0).1, (true, ())))))) : R a0_0 a0_1 a1 = some c := start_rule (n := 400) (lv := lv) (noSum_ok _) (by kernel_rfl) h
end ref18_Pending
/-! garrison/garrisonref18.Same -/
namespace ref18_Same
def lv : Live := [((5, 1048576), [2, 3, 5], [94, 110]), ((10, 2097152), [2, 3, 6], [94, 110])]
abbrev H5 (x5 : Int) (b94 : List (List DV)) (b94_1 : List (List DV)) (b110 : List (List DV)) (b110_1 : List (List DV)) (c : (Bool × Unit)) : Prop := HeadAns cfg 14 sh lv (bd cfg 14 [1, 1, 0, 1, 0, 0]) 1048576 [.inBlock 0, .code (bd cfg 14 [1, 1, 1])]
  [(AV.ptr 94 0 0 0), (AV.ptr 110 0 0 0), (AV.d (DV.v (Value.int IntKind.i64 x5)))] [(Option.some (VBlk.cell 2 0 [(AV.d (DV.lst 15 b94)), (AV.d (DV.lst 12 b94_1))])), (Option.some (VBlk.cell 2 0 [(AV.d (DV.lst 15 b110)), (AV.d (DV.lst 12 b110_1))]))] 1048576 c
abbrev H10 (x6 : Int) (b94 : List (List DV)) (b94_1 : List (List DV)) (b110 : List (List DV)) (b110_1 : List (List DV)) (c : (Bool × Unit)) : Prop := HeadAns cfg 14 sh lv (bd cfg 14 [1, 1, 1, 0, 1, 0, 0]) 2097152 [.inBlock 2, .code (bd cfg 14 [1, 1, 1, 1])]
  [(AV.ptr 94 0 0 0), (AV.ptr 110 0 0 0), (AV.d (DV.v (Value.int IntKind.i64 x6)))] [(Option.some (VBlk.cell 2 0 [(AV.d (DV.lst 15 b94)), (AV.d (DV.lst 12 b94_1))])), (Option.some (VBlk.cell 2 0 [(AV.d (DV.lst 15 b110)), (AV.d (DV.lst 12 b110_1))]))] 2097152 c
theorem start (a0_0 : List (List DV)) (a0_1 : List (List DV)) (a1_0 : List (List DV)) (a1_1 : List (List DV)) (c : (Bool × Unit)) (h :
    cond (((((a0_0).length : Nat) : Int) != (((a1_0).length : Nat) : Int))) (
      c = (false, ())) (
      cond (((((a0_1).length : Nat) : Int) != (((a1_1).length : Nat) : Int))) (
        c = (false, ())) (
        H5 (0 : Int) a0_0 a0_1 a1_0 a1_1 c))) : R a0_0 a0_1 a1_0 a1_1 = some c := start_rule (n := 400) (lv := lv) (noSum_ok _) (by kernel_rfl) h
theorem H5_step (x5 : Int) (b94 : List (List DV)) (b94_1 : List (List DV)) (b110 : List (List DV)) (b110_1 : List (List DV)) (c : (Bool × Unit)) (h :
    cond (decide ((x5 < (((b94).length : Nat) : Int)))) (
      needs ((0 : Int) ≤ x5) (
      optAll ((b94)[(Int.toNat x5)]?) fun (r0 : List DV) =>
      optAll ((dInt IntKind.i64 r0 0)) fun (z1 : Int) =>
      optAll ((dInt IntKind.i64 r0 1)) fun (z2 : Int) =>
      optAll ((dInt IntKind.u64 r0 2)) fun (z3 : Int) =>
      optAll ((dInt IntKind.u64 r0 3)) fun (z4 : Int) =>
      optAll ((dInt IntKind.i64 r0 4)) fun (z5 : Int) =>
      optAll ((dInt IntKind.i64 r0 5)) fun (z6 : Int) =>
      optAll ((dInt IntKind.i64 r0 6)) fun (z7 : Int) =>
      optAll ((dInt IntKind.i64 r0 7)) fun (z8 : Int) =>
      optAll ((dInt IntKind.i64 r0 8)) fun (z9 : Int) =>
      optAll ((dInt IntKind.i64 r0 9)) fun (z10 : Int) =>
      optAll ((dInt IntKind.i64 r0 10)) fun (z11 : Int) =>
      optAll ((dInt IntKind.i64 r0 11)) fun (z12 : Int) =>
      optAll ((dInt IntKind.i64 r0 12)) fun (z13 : Int) =>
      optAll ((dInt IntKind.i64 r0 13)) fun (z14 : Int) =>
      optAll ((dBool r0 14)) fun (z15 : Bool) =>
      needs ((0 : Int) ≤ x5) (
      optAll ((b110)[(Int.toNat x5)]?) fun (r16 : List DV) =>
      optAll ((dInt IntKind.i64 r16 0)) fun (z17 : Int) =>
      optAll ((dInt IntKind.i64 r16 1)) fun (z18 : Int) =>
      optAll ((dInt IntKind.u64 r16 2)) fun (z19 : Int) =>
      optAll ((dInt IntKind.u64 r16 3)) fun (z20 : Int) =>
      optAll ((dInt IntKind.i64 r16 4)) fun (z21 : Int) =>
      optAll ((dInt IntKind.i64 r16 5)) fun (z22 : Int) =>
      optAll ((dInt IntKind.i64 r16 6)) fun (z23 : Int) =>
      optAll ((dInt IntKind.i64 r16 7)) fun (z24 : Int) =>
      optAll ((dInt IntKind.i64 r16 8)) fun (z25 : Int) =>
      optAll ((dInt IntKind.i64 r16 9)) fun (z26 : Int) =>
      optAll ((dInt IntKind.i64 r16 10)) fun (z27 : Int) =>
      optAll ((dInt IntKind.i64 r16 11)) fun (z28 : Int) =>
      optAll ((dInt IntKind.i64 r16 12)) fun (z29 : Int) =>
      optAll ((dInt IntKind.i64 r16 13)) fun (z30 : Int) =>
      optAll ((dBool r16 14)) fun (z31 : Bool) =>
      cond ((!((z1 == z17) && ((z2 == z18) && ((z3 == z19) && ((z4 == z20) && ((z5 == z21) && ((z6 == z22) && ((z7 == z23) && ((z8 == z24) && ((z9 == z25) && ((z10 == z26) && ((z11 == z27) && ((z12 == z28) && ((z13 == z29) && ((z14 == z30) && ((z15 == z31) && true))))))))))))))))) (
        c = (false, ())) (
        H5 (IntKind.i64.wrap (x5 + (1 : Int))) b94 b94_1 b110 b110_1 c)))) (
      H10 (0 : Int) b94 b94_1 b110 b110_1 c)) : H5 x5 b94 b94_1 b110 b110_1 c := head_rule (n := 400) (noSum_ok _) (by kernel_rfl) h
theorem H10_step (x6 : Int) (b94 : List (List DV)) (b94_1 : List (List DV)) (b110 : List (List DV)) (b110_1 : List (List DV)) (c : (Bool × Unit)) (h :
    cond (decide ((x6 < (((b94_1).length : Nat) : Int)))) (
      needs ((0 : Int) ≤ x6) (
      optAll ((b94_1)[(Int.toNat x6)]?) fun (r32 : List DV) =>
      optAll ((dInt IntKind.i64 r32 0)) fun (z33 : Int) =>
      optAll ((dInt IntKind.i64 r32 1)) fun (z34 : Int) =>
      optAll ((dInt IntKind.i64 r32 2)) fun (z35 : Int) =>
      optAll ((dInt IntKind.u64 r32 3)) fun (z36 : Int) =>
      optAll ((dInt IntKind.u64 r32 4)) fun (z37 : Int) =>
      optAll ((dInt IntKind.i64 r32 5)) fun (z38 : Int) =>
      optAll ((dInt IntKind.i64 r32 6)) fun (z39 : Int) =>
      optAll ((dInt IntKind.i64 r32 7)) fun (z40 : Int) =>
      optAll ((dInt IntKind.i64 r32 8)) fun (z41 : Int) =>
      optAll ((dInt IntKind.i64 r32 9)) fun (z42 : Int) =>
      optAll ((dInt IntKind.i64 r32 10)) fun (z43 : Int) =>
      optAll ((dLst 5 r32 11)) fun (l44 : List (List DV)) =>
      needs ((0 : Int) ≤ x6) (
      optAll ((b110_1)[(Int.toNat x6)]?) fun (r45 : List DV) =>
      optAll ((dInt IntKind.i64 r45 0)) fun (z46 : Int) =>
      optAll ((dInt IntKind.i64 r45 1)) fun (z47 : Int) =>
      optAll ((dInt IntKind.i64 r45 2)) fun (z48 : Int) =>
      optAll ((dInt IntKind.u64 r45 3)) fun (z49 : Int) =>
      optAll ((dInt IntKind.u64 r45 4)) fun (z50 : Int) =>
      optAll ((dInt IntKind.i64 r45 5)) fun (z51 : Int) =>
      optAll ((dInt IntKind.i64 r45 6)) fun (z52 : Int) =>
      optAll ((dInt IntKind.i64 r45 7)) fun (z53 : Int) =>
      optAll ((dInt IntKind.i64 r45 8)) fun (z54 : Int) =>
      optAll ((dInt IntKind.i64 r45 9)) fun (z55 : Int) =>
      optAll ((dInt IntKind.i64 r45 10)) fun (z56 : Int) =>
      optAll ((dLst 5 r45 11)) fun (l57 : List (List DV)) =>
      cond ((z33 != z46)) (
        c = (false, ())) (
        cond ((z34 != z47)) (
          c = (false, ())) (
          cond ((!((z35 == z48) && ((z36 == z49) && ((z37 == z50) && ((z38 == z51) && ((z39 == z52) && ((z40 == z53) && ((z41 == z54) && ((z42 == z55) && true)))))))))) (
            c = (false, ())) (
            cond ((z43 != z56)) (
              c = (false, ())) (
              optAll (ref17_Dones.R l44 l57) fun (c58 : (Bool × Unit)) =>
              cond ((!(c58).1)) (
                c = (false, ())) (
                H10 (IntKind.i64.wrap (x6 + (1 : Int))) b94 b94_1 b110 b110_1 c)))))))) (
      c = (true, ()))) : H10 x6 b94 b94_1 b110 b110_1 c := head_rule (n := 400) (noSum_ok _) (by kernel_rfl) h
end ref18_Same
/-! garrison/hist.Check -/
namespace hist_Check
def lv : Live := [((3, 1048576), [1, 8, 9, 10], [39]), ((9, 2097152), [1, 24, 25, 26], [39])]
abbrev H3 (x8 : List (List DV)) (x9 : Int) (x10 : Int) (b39 : List (List DV)) (b39_1 : List (List DV)) (c : (Int × Unit)) : Prop := HeadAns cfg 16 sh lv (bd cfg 16 [1, 0, 1, 0, 0]) 1048576 [.inBlock 0, .code (bd cfg 16 [1, 1])]
  [(AV.ptr 39 0 0 0), (AV.d (DV.lst 15 x8)), (AV.d (DV.v (Value.int IntKind.i64 x9))), (AV.d (DV.v (Value.int IntKind.i64 x10)))] [(Option.some (VBlk.cell 2 0 [(AV.d (DV.lst 15 b39)), (AV.d (DV.lst 12 b39_1))]))] 1048576 c
abbrev H9 (x24 : List (List DV)) (x25 : Int) (x26 : Int) (b39 : List (List DV)) (b39_1 : List (List DV)) (c : (Int × Unit)) : Prop := HeadAns cfg 16 sh lv (bd cfg 16 [1, 1, 0, 1, 0, 0]) 2097152 [.inBlock 2, .code (bd cfg 16 [1, 1, 1])]
  [(AV.ptr 39 0 0 0), (AV.d (DV.lst 12 x24)), (AV.d (DV.v (Value.int IntKind.i64 x25))), (AV.d (DV.v (Value.int IntKind.i64 x26)))] [(Option.some (VBlk.cell 2 0 [(AV.d (DV.lst 15 b39)), (AV.d (DV.lst 12 b39_1))]))] 2097152 c
theorem start (a0_0 : List (List DV)) (a0_1 : List (List DV)) (c : (Int × Unit)) (h :
    H3 a0_0 (((a0_0).length : Nat) : Int) (0 : Int) a0_0 a0_1 c) : R a0_0 a0_1 = some c := start_rule (n := 400) (lv := lv) (noSum_ok _) (by kernel_rfl) h
theorem H3_step (x8 : List (List DV)) (x9 : Int) (x10 : Int) (b39 : List (List DV)) (b39_1 : List (List DV)) (c : (Int × Unit)) (h :
    cond (decide ((x10 < x9))) (
      needs ((0 : Int) ≤ x10) (
      optAll ((x8)[(Int.toNat x10)]?) fun (r0 : List DV) =>
      optAll ((dInt IntKind.i64 r0 0)) fun (z1 : Int) =>
      optAll ((dInt IntKind.i64 r0 1)) fun (z2 : Int) =>
      optAll ((dInt IntKind.u64 r0 2)) fun (z3 : Int) =>
      optAll ((dInt IntKind.u64 r0 3)) fun (z4 : Int) =>
      optAll ((dInt IntKind.i64 r0 4)) fun (z5 : Int) =>
      optAll ((dInt IntKind.i64 r0 5)) fun (z6 : Int) =>
      optAll ((dInt IntKind.i64 r0 6)) fun (z7 : Int) =>
      optAll ((dInt IntKind.i64 r0 7)) fun (z8 : Int) =>
      optAll ((dInt IntKind.i64 r0 8)) fun (z9 : Int) =>
      optAll ((dInt IntKind.i64 r0 9)) fun (z10 : Int) =>
      optAll ((dInt IntKind.i64 r0 10)) fun (z11 : Int) =>
      optAll ((dInt IntKind.i64 r0 11)) fun (z12 : Int) =>
      optAll ((dInt IntKind.i64 r0 12)) fun (z13 : Int) =>
      optAll ((dInt IntKind.i64 r0 13)) fun (z14 : Int) =>
      optAll ((dBool r0 14)) fun (z15 : Bool) =>
      needs (((0 : Int) ≤ (0 : Int)) ∧ (((0 : Int) ≤ x10) ∧ (x10 ≤ (((b39).length : Nat) : Int)))) (
      optAll (hist_isSpan.R z1 z2 z3 z4 z5 z6 z7 z8 z9 z10 z11 z12 z13 z14 z15 ((b39).take ((Int.toNat x10)))) fun (c16 : (Bool × Unit)) =>
      cond ((!(c16).1)) (
        c = ((180 : Int), ())) (
        H3 x8 x9 (IntKind.i64.wrap (x10 + (1 : Int))) b39 b39_1 c)))) (
      H9 b39_1 (((b39_1).length : Nat) : Int) (0 : Int) b39 b39_1 c)) : H3 x8 x9 x10 b39 b39_1 c := head_rule (n := 400) (noSum_ok _) (by kernel_rfl) h
theorem H9_step (x24 : List (List DV)) (x25 : Int) (x26 : Int) (b39 : List (List DV)) (b39_1 : List (List DV)) (c : (Int × Unit)) (h :
    cond (decide ((x26 < x25))) (
      needs ((0 : Int) ≤ x26) (
      optAll ((x24)[(Int.toNat x26)]?) fun (r17 : List DV) =>
      optAll ((dInt IntKind.i64 r17 0)) fun (z18 : Int) =>
      optAll ((dInt IntKind.i64 r17 1)) fun (z19 : Int) =>
      optAll ((dInt IntKind.i64 r17 2)) fun (z20 : Int) =>
      optAll ((dInt IntKind.u64 r17 3)) fun (z21 : Int) =>
      optAll ((dInt IntKind.u64 r17 4)) fun (z22 : Int) =>
      optAll ((dInt IntKind.i64 r17 5)) fun (z23 : Int) =>
      optAll ((dInt IntKind.i64 r17 6)) fun (z24 : Int) =>
      optAll ((dInt IntKind.i64 r17 7)) fun (z25 : Int) =>
      optAll ((dInt IntKind.i64 r17 8)) fun (z26 : Int) =>
      optAll ((dInt IntKind.i64 r17 9)) fun (z27 : Int) =>
      optAll ((dInt IntKind.i64 r17 10)) fun (z28 : Int) =>
      optAll ((dLst 5 r17 11)) fun (l29 : List (List DV)) =>
      needs (((0 : Int) ≤ (0 : Int)) ∧ (((0 : Int) ≤ x26) ∧ (x26 ≤ (((b39_1).length : Nat) : Int)))) (
      optAll (hist_isEvent.R z18 z19 z20 z21 z22 z23 z24 z25 z26 z27 z28 l29 ((b39_1).take ((Int.toNat x26)))) fun (c30 : (Bool × Unit)) =>
      cond ((!(c30).1)) (
        c = ((180 : Int), ())) (
        H9 x24 x25 (IntKind.i64.wrap (x26 + (1 : Int))) b39 b39_1 c)))) (
      c = ((0 : Int), ()))) : H9 x24 x25 x26 b39 b39_1 c := head_rule (n := 400) (noSum_ok _) (by kernel_rfl) h
end hist_Check
/-! garrison/garrisonlaw18.num -/
namespace law18_num
def lv : Live := []
theorem start (a0 : Int) (c : (Int × Unit)) (h :
    c = (a0, ())) : R a0 = some c := start_rule (n := 400) (lv := lv) (noSum_ok _) (by kernel_rfl) h
end law18_num
/-! garrison/garrisonref18.Is -/
namespace ref18_Is
def lv : Live := [((3, 1048576), [1, 3], [143]), ((12, 2097152), [1, 6], [143])]
abbrev H3 (x3 : Int) (b143 : List (List DV)) (b143_1 : List (List DV)) (c : (Bool × Unit)) : Prop := HeadAns cfg 17 sh lv (bd cfg 17 [1, 0, 1, 0, 0]) 1048576 [.inBlock 0, .code (bd cfg 17 [1, 1])]
  [(AV.ptr 143 0 0 0), (AV.d (DV.v (Value.int IntKind.i64 x3)))] [(Option.some (VBlk.cell 2 0 [(AV.d (DV.lst 15 b143)), (AV.d (DV.lst 12 b143_1))]))] 1048576 c
abbrev H12 (x6 : Int) (b143 : List (List DV)) (b143_1 : List (List DV)) (c : (Bool × Unit)) : Prop := HeadAns cfg 17 sh lv (bd cfg 17 [1, 1, 0, 1, 0, 0]) 2097152 [.inBlock 2, .code (bd cfg 17 [1, 1, 1])]
  [(AV.ptr 143 0 0 0), (AV.d (DV.v (Value.int IntKind.i64 x6)))] [(Option.some (VBlk.cell 2 0 [(AV.d (DV.lst 15 b143)), (AV.d (DV.lst 12 b143_1))]))] 2097152 c
theorem start (a0_0 : List (List DV)) (a0_1 : List (List DV)) (c : (Bool × Unit)) (h :
    H3 (0 : Int) a0_0 a0_1 c) : R a0_0 a0_1 = some c := start_rule (n := 400) (lv := lv) (noSum_ok _) (by kernel_rfl) h
theorem H3_step (x3 : Int) (b143 : List (List DV)) (b143_1 : List (List DV)) (c : (Bool × Unit)) (h :
    cond (decide ((x3 < (((b143).length : Nat) : Int)))) (
      needs ((0 : Int) ≤ x3) (
      optAll ((b143)[(Int.toNat x3)]?) fun (r0 : List DV) =>
      optAll ((dInt IntKind.i64 r0 0)) fun (z1 : Int) =>
      optAll ((dInt IntKind.i64 r0 1)) fun (z2 : Int) =>
      optAll ((dInt IntKind.u64 r0 2)) fun (z3 : Int) =>
      optAll ((dInt IntKind.u64 r0 3)) fun (z4 : Int) =>
      optAll ((dInt IntKind.i64 r0 4)) fun (z5 : Int) =>
      optAll ((dInt IntKind.i64 r0 5)) fun (z6 : Int) =>
      optAll ((dInt IntKind.i64 r0 6)) fun (z7 : Int) =>
      optAll ((dInt IntKind.i64 r0 7)) fun (z8 : Int) =>
      optAll ((dInt IntKind.i64 r0 8)) fun (z9 : Int) =>
      optAll ((dInt IntKind.i64 r0 9)) fun (z10 : Int) =>
      optAll ((dInt IntKind.i64 r0 10)) fun (z11 : Int) =>
      optAll ((dInt IntKind.i64 r0 11)) fun (z12 : Int) =>
      optAll ((dInt IntKind.i64 r0 12)) fun (z13 : Int) =>
      optAll ((dInt IntKind.i64 r0 13)) fun (z14 : Int) =>
      optAll ((dBool r0 14)) fun (z15 : Bool) =>
      optAll (ref18_core.R z1) fun (c16 : (Bool × Unit)) =>
      cond ((!(c16).1)) (
        c = (false, ())) (
        cond (decide ((z10 < (1 : Int)))) (
          c = (false, ())) (
          cond (decide ((x3 > (0 : Int)))) (
            needs ((0 : Int) ≤ (IntKind.i64.wrap (x3 - (1 : Int)))) (
            optAll ((b143)[(Int.toNat (IntKind.i64.wrap (x3 - (1 : Int))))]?) fun (r17 : List DV) =>
            optAll ((dInt IntKind.i64 r17 9)) fun (z18 : Int) =>
            cond (decide ((z10 < z18))) (
              c = (false, ())) (
              cond ((z11 != (0 : Int))) (
                cond (decide ((z11 < z10))) (
                  c = (false, ())) (
                  cond ((z11 == (0 : Int))) (
                    cond ((!((z12 == (0 : Int)) && ((z13 == (0 : Int)) && ((z14 == (0 : Int)) && ((z15 == false) && true)))))) (
                      c = (false, ())) (
                      optAll (ref18_last.R b143 z1 x3) fun (c19 : (Int × Unit)) =>
                      cond (decide (((c19).1 ≥ (0 : Int)))) (
                        needs ((0 : Int) ≤ (c19).1) (
                        optAll ((b143)[(Int.toNat (c19).1)]?) fun (r20 : List DV) =>
                        optAll ((dInt IntKind.i64 r20 10)) fun (z21 : Int) =>
                        cond ((z21 == (0 : Int))) (
                          c = (false, ())) (
                          needs ((0 : Int) ≤ (c19).1) (
                          optAll ((b143)[(Int.toNat (c19).1)]?) fun (r22 : List DV) =>
                          optAll ((dInt IntKind.i64 r22 10)) fun (z23 : Int) =>
                          cond (decide ((z23 ≥ z10))) (
                            c = (false, ())) (
                            H3 (IntKind.i64.wrap (x3 + (1 : Int))) b143 b143_1 c))))) (
                        H3 (IntKind.i64.wrap (x3 + (1 : Int))) b143 b143_1 c))) (
                    optAll (ref18_last.R b143 z1 x3) fun (c24 : (Int × Unit)) =>
                    cond (decide (((c24).1 ≥ (0 : Int)))) (
                      needs ((0 : Int) ≤ (c24).1) (
                      optAll ((b143)[(Int.toNat (c24).1)]?) fun (r25 : List DV) =>
                      optAll ((dInt IntKind.i64 r25 10)) fun (z26 : Int) =>
                      cond ((z26 == (0 : Int))) (
                        c = (false, ())) (
                        needs ((0 : Int) ≤ (c24).1) (
                        optAll ((b143)[(Int.toNat (c24).1)]?) fun (r27 : List DV) =>
                        optAll ((dInt IntKind.i64 r27 10)) fun (z28 : Int) =>
                        cond (decide ((z28 ≥ z10))) (
                          c = (false, ())) (
                          H3 (IntKind.i64.wrap (x3 + (1 : Int))) b143 b143_1 c))))) (
                      H3 (IntKind.i64.wrap (x3 + (1 : Int))) b143 b143_1 c)))) (
                cond ((z11 == (0 : Int))) (
                  cond ((!((z12 == (0 : Int)) && ((z13 == (0 : Int)) && ((z14 == (0 : Int)) && ((z15 == false) && true)))))) (
                    c = (false, ())) (
                    optAll (ref18_last.R b143 z1 x3) fun (c29 : (Int × Unit)) =>
                    cond (decide (((c29).1 ≥ (0 : Int)))) (
                      needs ((0 : Int) ≤ (c29).1) (
                      optAll ((b143)[(Int.toNat (c29).1)]?) fun (r30 : List DV) =>
                      optAll ((dInt IntKind.i64 r30 10)) fun (z31 : Int) =>
                      cond ((z31 == (0 : Int))) (
                        c = (false, ())) (
                        needs ((0 : Int) ≤ (c29).1) (
                        optAll ((b143)[(Int.toNat (c29).1)]?) fun (r32 : List DV) =>
                        optAll ((dInt IntKind.i64 r32 10)) fun (z33 : Int) =>
                        cond (decide ((z33 ≥ z10))) (
                          c = (false, ())) (
                          H3 (IntKind.i64.wrap (x3 + (1 : Int))) b143 b143_1 c))))) (
                      H3 (IntKind.i64.wrap (x3 + (1 : Int))) b143 b143_1 c))) (
                  optAll (ref18_last.R b143 z1 x3) fun (c34 : (Int × Unit)) =>
                  cond (decide (((c34).1 ≥ (0 : Int)))) (
                    needs ((0 : Int) ≤ (c34).1) (
                    optAll ((b143)[(Int.toNat (c34).1)]?) fun (r35 : List DV) =>
                    optAll ((dInt IntKind.i64 r35 10)) fun (z36 : Int) =>
                    cond ((z36 == (0 : Int))) (
                      c = (false, ())) (
                      needs ((0 : Int) ≤ (c34).1) (
                      optAll ((b143)[(Int.toNat (c34).1)]?) fun (r37 : List DV) =>
                      optAll ((dInt IntKind.i64 r37 10)) fun (z38 : Int) =>
                      cond (decide ((z38 ≥ z10))) (
                        c = (false, ())) (
                        H3 (IntKind.i64.wrap (x3 + (1 : Int))) b143 b143_1 c))))) (
                    H3 (IntKind.i64.wrap (x3 + (1 : Int))) b143 b143_1 c)))))) (
            cond ((z11 != (0 : Int))) (
              cond (decide ((z11 < z10))) (
                c = (false, ())) (
                cond ((z11 == (0 : Int))) (
                  cond ((!((z12 == (0 : Int)) && ((z13 == (0 : Int)) && ((z14 == (0 : Int)) && ((z15 == false) && true)))))) (
                    c = (false, ())) (
                    optAll (ref18_last.R b143 z1 x3) fun (c39 : (Int × Unit)) =>
                    cond (decide (((c39).1 ≥ (0 : Int)))) (
                      needs ((0 : Int) ≤ (c39).1) (
                      optAll ((b143)[(Int.toNat (c39).1)]?) fun (r40 : List DV) =>
                      optAll ((dInt IntKind.i64 r40 10)) fun (z41 : Int) =>
                      cond ((z41 == (0 : Int))) (
                        c = (false, ())) (
                        needs ((0 : Int) ≤ (c39).1) (
                        optAll ((b143)[(Int.toNat (c39).1)]?) fun (r42 : List DV) =>
                        optAll ((dInt IntKind.i64 r42 10)) fun (z43 : Int) =>
                        cond (decide ((z43 ≥ z10))) (
                          c = (false, ())) (
                          H3 (IntKind.i64.wrap (x3 + (1 : Int))) b143 b143_1 c))))) (
                      H3 (IntKind.i64.wrap (x3 + (1 : Int))) b143 b143_1 c))) (
                  optAll (ref18_last.R b143 z1 x3) fun (c44 : (Int × Unit)) =>
                  cond (decide (((c44).1 ≥ (0 : Int)))) (
                    needs ((0 : Int) ≤ (c44).1) (
                    optAll ((b143)[(Int.toNat (c44).1)]?) fun (r45 : List DV) =>
                    optAll ((dInt IntKind.i64 r45 10)) fun (z46 : Int) =>
                    cond ((z46 == (0 : Int))) (
                      c = (false, ())) (
                      needs ((0 : Int) ≤ (c44).1) (
                      optAll ((b143)[(Int.toNat (c44).1)]?) fun (r47 : List DV) =>
                      optAll ((dInt IntKind.i64 r47 10)) fun (z48 : Int) =>
                      cond (decide ((z48 ≥ z10))) (
                        c = (false, ())) (
                        H3 (IntKind.i64.wrap (x3 + (1 : Int))) b143 b143_1 c))))) (
                    H3 (IntKind.i64.wrap (x3 + (1 : Int))) b143 b143_1 c)))) (
              cond ((z11 == (0 : Int))) (
                cond ((!((z12 == (0 : Int)) && ((z13 == (0 : Int)) && ((z14 == (0 : Int)) && ((z15 == false) && true)))))) (
                  c = (false, ())) (
                  optAll (ref18_last.R b143 z1 x3) fun (c49 : (Int × Unit)) =>
                  cond (decide (((c49).1 ≥ (0 : Int)))) (
                    needs ((0 : Int) ≤ (c49).1) (
                    optAll ((b143)[(Int.toNat (c49).1)]?) fun (r50 : List DV) =>
                    optAll ((dInt IntKind.i64 r50 10)) fun (z51 : Int) =>
                    cond ((z51 == (0 : Int))) (
                      c = (false, ())) (
                      needs ((0 : Int) ≤ (c49).1) (
                      optAll ((b143)[(Int.toNat (c49).1)]?) fun (r52 : List DV) =>
                      optAll ((dInt IntKind.i64 r52 10)) fun (z53 : Int) =>
                      cond (decide ((z53 ≥ z10))) (
                        c = (false, ())) (
                        H3 (IntKind.i64.wrap (x3 + (1 : Int))) b143 b143_1 c))))) (
                    H3 (IntKind.i64.wrap (x3 + (1 : Int))) b143 b143_1 c))) (
                optAll (ref18_last.R b143 z1 x3) fun (c54 : (Int × Unit)) =>
                cond (decide (((c54).1 ≥ (0 : Int)))) (
                  needs ((0 : Int) ≤ (c54).1) (
                  optAll ((b143)[(Int.toNat (c54).1)]?) fun (r55 : List DV) =>
                  optAll ((dInt IntKind.i64 r55 10)) fun (z56 : Int) =>
                  cond ((z56 == (0 : Int))) (
                    c = (false, ())) (
                    needs ((0 : Int) ≤ (c54).1) (
                    optAll ((b143)[(Int.toNat (c54).1)]?) fun (r57 : List DV) =>
                    optAll ((dInt IntKind.i64 r57 10)) fun (z58 : Int) =>
                    cond (decide ((z58 ≥ z10))) (
                      c = (false, ())) (
                      H3 (IntKind.i64.wrap (x3 + (1 : Int))) b143 b143_1 c))))) (
                  H3 (IntKind.i64.wrap (x3 + (1 : Int))) b143 b143_1 c)))))))) (
      H12 (0 : Int) b143 b143_1 c)) : H3 x3 b143 b143_1 c := head_rule (n := 400) (noSum_ok _) (by kernel_rfl) h
theorem H12_step (x6 : Int) (b143 : List (List DV)) (b143_1 : List (List DV)) (c : (Bool × Unit)) (h :
    cond (decide ((x6 < (((b143_1).length : Nat) : Int)))) (
      needs ((0 : Int) ≤ x6) (
      optAll ((b143_1)[(Int.toNat x6)]?) fun (r59 : List DV) =>
      optAll ((dInt IntKind.i64 r59 0)) fun (z60 : Int) =>
      optAll ((dInt IntKind.i64 r59 1)) fun (z61 : Int) =>
      optAll ((dInt IntKind.i64 r59 2)) fun (z62 : Int) =>
      optAll ((dInt IntKind.u64 r59 3)) fun (z63 : Int) =>
      optAll ((dInt IntKind.u64 r59 4)) fun (z64 : Int) =>
      optAll ((dInt IntKind.i64 r59 5)) fun (z65 : Int) =>
      optAll ((dInt IntKind.i64 r59 6)) fun (z66 : Int) =>
      optAll ((dInt IntKind.i64 r59 7)) fun (z67 : Int) =>
      optAll ((dInt IntKind.i64 r59 8)) fun (z68 : Int) =>
      optAll ((dInt IntKind.i64 r59 9)) fun (z69 : Int) =>
      optAll ((dInt IntKind.i64 r59 10)) fun (z70 : Int) =>
      optAll ((dLst 5 r59 11)) fun (l71 : List (List DV)) =>
      cond (decide ((z60 < (0 : Int)))) (
        c = (false, ())) (
        cond (decide ((z60 > (3 : Int)))) (
          c = (false, ())) (
          optAll (ref18_core.R z61) fun (c72 : (Bool × Unit)) =>
          cond ((!(c72).1)) (
            c = (false, ())) (
            cond (decide ((z70 < (1 : Int)))) (
              c = (false, ())) (
              cond (decide ((x6 > (0 : Int)))) (
                needs ((0 : Int) ≤ (IntKind.i64.wrap (x6 - (1 : Int)))) (
                optAll ((b143_1)[(Int.toNat (IntKind.i64.wrap (x6 - (1 : Int))))]?) fun (r73 : List DV) =>
                optAll ((dInt IntKind.i64 r73 10)) fun (z74 : Int) =>
                cond (decide ((z70 ≤ z74))) (
                  c = (false, ())) (
                  H12 (IntKind.i64.wrap (x6 + (1 : Int))) b143 b143_1 c))) (
                H12 (IntKind.i64.wrap (x6 + (1 : Int))) b143 b143_1 c))))))) (
      c = (true, ()))) : H12 x6 b143 b143_1 c := head_rule (n := 400) (noSum_ok _) (by kernel_rfl) h
end ref18_Is
/-! garrison/hist.Same -/
namespace hist_Same
def lv : Live := []
theorem start (a0_0 : List (List DV)) (a0_1 : List (List DV)) (a1_0 : List (List DV)) (a1_1 : List (List DV)) (c : (Bool × Unit)) (h :
    optAll (slices_Equal_api_Span_api_Span.R a0_0 a1_0) fun (c0 : (Bool × Unit)) =>
    cond ((c0).1) (
      optAll (slices_EqualFunc_api_Event_api_Event_api_Event_api_Event__hist_Same_1.R a0_1 a1_1) fun (c1 : (Bool × Unit)) =>
      c = ((c1).1, ())) (
      c = (false, ()))) : R a0_0 a0_1 a1_0 a1_1 = some c := start_rule (n := 400) (lv := lv) (noSum_ok _) (by kernel_rfl) h
end hist_Same
/-! garrison/hist.Ahead -/
namespace hist_Ahead
def lv : Live := []
theorem start (a0_0 : Int) (a0_1 : Int) (a0_2 : Int) (a0_3 : Int) (a0_4 : Int) (a0_5 : Int) (a0_6 : Int) (a0_7 : Int) (a0_8 : Int) (a0_9 : Int) (a0_10 : Int) (a0_11 : Int) (a0_12 : Int) (a0_13 : Int) (a0_14 : Bool) (a1_0 : Int) (a1_1 : Int) (a1_2 : Int) (a1_3 : Int) (a1_4 : Int) (a1_5 : Int) (a1_6 : Int) (a1_7 : Int) (a1_8 : Int) (a1_9 : Int) (a1_10 : Int) (a1_11 : Int) (a1_12 : Int) (a1_13 : Int) (a1_14 : Bool) (c : (Bool × Unit)) (h :
    cond ((a0_10 != (0 : Int))) (
      c = (decide ((a0_10 < a1_9)), ())) (
      c = (false, ()))) : R a0_0 a0_1 a0_2 a0_3 a0_4 a0_5 a0_6 a0_7 a0_8 a0_9 a0_10 a0_11 a0_12 a0_13 a0_14 a1_0 a1_1 a1_2 a1_3 a1_4 a1_5 a1_6 a1_7 a1_8 a1_9 a1_10 a1_11 a1_12 a1_13 a1_14 = some c := start_rule (n := 400) (lv := lv) (noSum_ok _) (by kernel_rfl) h
end hist_Ahead
/-! garrison/hist.Invoke -/
namespace hist_Invoke
def lv : Live := []
theorem start (a0_0 : List (List DV)) (a0_1 : List (List DV)) (a1 : Int) (a2_0 : Int) (a2_1 : Int) (a2_2 : Int) (a2_3 : Int) (a2_4 : Int) (a2_5 : Int) (a2_6 : Int) (a2_7 : Int) (a3 : Int) (c : ((List (List DV) × (List (List DV) × Unit)) × (Int × Unit))) (h :
    optAll (hist_Check.R a0_0 a0_1) fun (c0 : (Int × Unit)) =>
    cond (((c0).1 != (0 : Int))) (
      c = ((a0_0, (a0_1, ())), ((180 : Int), ()))) (
      optAll (hist_isCore.R a1) fun (c1 : (Bool × Unit)) =>
      cond ((!(c1).1)) (
        c = ((a0_0, (a0_1, ())), ((2 : Int), ()))) (
        cond (decide ((a3 < (1 : Int)))) (
          c = ((a0_0, (a0_1, ())), ((2 : Int), ()))) (
          cond (decide (((((a0_0).length : Nat) : Int) > (0 : Int)))) (
            needs ((0 : Int) ≤ (IntKind.i64.wrap ((((a0_0).length : Nat) : Int) - (1 : Int)))) (
            optAll ((a0_0)[(Int.toNat (IntKind.i64.wrap ((((a0_0).length : Nat) : Int) - (1 : Int))))]?) fun (r2 : List DV) =>
            optAll ((dInt IntKind.i64 r2 9)) fun (z3 : Int) =>
            cond (decide ((a3 < z3))) (
              c = ((a0_0, (a0_1, ())), ((2 : Int), ()))) (
              optAll (hist_isSpan.R a1 a2_0 a2_1 a2_2 a2_3 a2_4 a2_5 a2_6 a2_7 a3 (0 : Int) (0 : Int) (0 : Int) (0 : Int) false a0_0) fun (c4 : (Bool × Unit)) =>
              cond ((!(c4).1)) (
                c = ((a0_0, (a0_1, ())), ((8 : Int), ()))) (
                needs ((((a0_0).length * 120) ≤ 140737488355328) ∧ (((a0_0).length * 15) ≤ 140737488355328)) (
                needs ((a0_0).length = (a0_0).length) (
                needs (((((a0_0 ++ (([[(DV.v (Value.int IntKind.i64 a1)), (DV.v (Value.int IntKind.i64 a2_0)), (DV.v (Value.int IntKind.u64 a2_1)), (DV.v (Value.int IntKind.u64 a2_2)), (DV.v (Value.int IntKind.i64 a2_3)), (DV.v (Value.int IntKind.i64 a2_4)), (DV.v (Value.int IntKind.i64 a2_5)), (DV.v (Value.int IntKind.i64 a2_6)), (DV.v (Value.int IntKind.i64 a2_7)), (DV.v (Value.int IntKind.i64 a3)), (DV.v (Value.int IntKind.i64 (0 : Int))), (DV.v (Value.int IntKind.i64 (0 : Int))), (DV.v (Value.int IntKind.i64 (0 : Int))), (DV.v (Value.int IntKind.i64 (0 : Int))), (DV.v (Value.bool false))]]).take (1)))).length * 120) ≤ 140737488355328) ∧ ((((a0_0 ++ (([[(DV.v (Value.int IntKind.i64 a1)), (DV.v (Value.int IntKind.i64 a2_0)), (DV.v (Value.int IntKind.u64 a2_1)), (DV.v (Value.int IntKind.u64 a2_2)), (DV.v (Value.int IntKind.i64 a2_3)), (DV.v (Value.int IntKind.i64 a2_4)), (DV.v (Value.int IntKind.i64 a2_5)), (DV.v (Value.int IntKind.i64 a2_6)), (DV.v (Value.int IntKind.i64 a2_7)), (DV.v (Value.int IntKind.i64 a3)), (DV.v (Value.int IntKind.i64 (0 : Int))), (DV.v (Value.int IntKind.i64 (0 : Int))), (DV.v (Value.int IntKind.i64 (0 : Int))), (DV.v (Value.int IntKind.i64 (0 : Int))), (DV.v (Value.bool false))]]).take (1)))).length * 15) ≤ 140737488355328)) (
                c = (((((a0_0 ++ (([[(DV.v (Value.int IntKind.i64 a1)), (DV.v (Value.int IntKind.i64 a2_0)), (DV.v (Value.int IntKind.u64 a2_1)), (DV.v (Value.int IntKind.u64 a2_2)), (DV.v (Value.int IntKind.i64 a2_3)), (DV.v (Value.int IntKind.i64 a2_4)), (DV.v (Value.int IntKind.i64 a2_5)), (DV.v (Value.int IntKind.i64 a2_6)), (DV.v (Value.int IntKind.i64 a2_7)), (DV.v (Value.int IntKind.i64 a3)), (DV.v (Value.int IntKind.i64 (0 : Int))), (DV.v (Value.int IntKind.i64 (0 : Int))), (DV.v (Value.int IntKind.i64 (0 : Int))), (DV.v (Value.int IntKind.i64 (0 : Int))), (DV.v (Value.bool false))]]).take (1)))).take (((a0_0 ++ (([[(DV.v (Value.int IntKind.i64 a1)), (DV.v (Value.int IntKind.i64 a2_0)), (DV.v (Value.int IntKind.u64 a2_1)), (DV.v (Value.int IntKind.u64 a2_2)), (DV.v (Value.int IntKind.i64 a2_3)), (DV.v (Value.int IntKind.i64 a2_4)), (DV.v (Value.int IntKind.i64 a2_5)), (DV.v (Value.int IntKind.i64 a2_6)), (DV.v (Value.int IntKind.i64 a2_7)), (DV.v (Value.int IntKind.i64 a3)), (DV.v (Value.int IntKind.i64 (0 : Int))), (DV.v (Value.int IntKind.i64 (0 : Int))), (DV.v (Value.int IntKind.i64 (0 : Int))), (DV.v (Value.int IntKind.i64 (0 : Int))), (DV.v (Value.bool false))]]).take (1)))).length)), (a0_1, ())), ((0 : Int), ()))))))))) (
            optAll (hist_isSpan.R a1 a2_0 a2_1 a2_2 a2_3 a2_4 a2_5 a2_6 a2_7 a3 (0 : Int) (0 : Int) (0 : Int) (0 : Int) false a0_0) fun (c5 : (Bool × Unit)) =>
            cond ((!(c5).1)) (
              c = ((a0_0, (a0_1, ())), ((8 : Int), ()))) (
              needs ((((a0_0).length * 120) ≤ 140737488355328) ∧ (((a0_0).length * 15) ≤ 140737488355328)) (
              needs ((a0_0).length = (a0_0).length) (
              needs (((((a0_0 ++ (([[(DV.v (Value.int IntKind.i64 a1)), (DV.v (Value.int IntKind.i64 a2_0)), (DV.v (Value.int IntKind.u64 a2_1)), (DV.v (Value.int IntKind.u64 a2_2)), (DV.v (Value.int IntKind.i64 a2_3)), (DV.v (Value.int IntKind.i64 a2_4)), (DV.v (Value.int IntKind.i64 a2_5)), (DV.v (Value.int IntKind.i64 a2_6)), (DV.v (Value.int IntKind.i64 a2_7)), (DV.v (Value.int IntKind.i64 a3)), (DV.v (Value.int IntKind.i64 (0 : Int))), (DV.v (Value.int IntKind.i64 (0 : Int))), (DV.v (Value.int IntKind.i64 (0 : Int))), (DV.v (Value.int IntKind.i64 (0 : Int))), (DV.v (Value.bool false))]]).take (1)))).length * 120) ≤ 140737488355328) ∧ ((((a0_0 ++ (([[(DV.v (Value.int IntKind.i64 a1)), (DV.v (Value.int IntKind.i64 a2_0)), (DV.v (Value.int IntKind.u64 a2_1)), (DV.v (Value.int IntKind.u64 a2_2)), (DV.v (Value.int IntKind.i64 a2_3)), (DV.v (Value.int IntKind.i64 a2_4)), (DV.v (Value.int IntKind.i64 a2_5)), (DV.v (Value.int IntKind.i64 a2_6)), (DV.v (Value.int IntKind.i64 a2_7)), (DV.v (Value.int IntKind.i64 a3)), (DV.v (Value.int IntKind.i64 (0 : Int))), (DV.v (Value.int IntKind.i64 (0 : Int))), (DV.v (Value.int IntKind.i64 (0 : Int))), (DV.v (Value.int IntKind.i64 (0 : Int))), (DV.v (Value.bool false))]]).take (1)))).length * 15) ≤ 140737488355328)) (
              c = (((((a0_0 ++ (([[(DV.v (Value.int IntKind.i64 a1)), (DV.v (Value.int IntKind.i64 a2_0)), (DV.v (Value.int IntKind.u64 a2_1)), (DV.v (Value.int IntKind.u64 a2_2)), (DV.v (Value.int IntKind.i64 a2_3)), (DV.v (Value.int IntKind.i64 a2_4)), (DV.v (Value.int IntKind.i64 a2_5)), (DV.v (Value.int IntKind.i64 a2_6)), (DV.v (Value.int IntKind.i64 a2_7)), (DV.v (Value.int IntKind.i64 a3)), (DV.v (Value.int IntKind.i64 (0 : Int))), (DV.v (Value.int IntKind.i64 (0 : Int))), (DV.v (Value.int IntKind.i64 (0 : Int))), (DV.v (Value.int IntKind.i64 (0 : Int))), (DV.v (Value.bool false))]]).take (1)))).take (((a0_0 ++ (([[(DV.v (Value.int IntKind.i64 a1)), (DV.v (Value.int IntKind.i64 a2_0)), (DV.v (Value.int IntKind.u64 a2_1)), (DV.v (Value.int IntKind.u64 a2_2)), (DV.v (Value.int IntKind.i64 a2_3)), (DV.v (Value.int IntKind.i64 a2_4)), (DV.v (Value.int IntKind.i64 a2_5)), (DV.v (Value.int IntKind.i64 a2_6)), (DV.v (Value.int IntKind.i64 a2_7)), (DV.v (Value.int IntKind.i64 a3)), (DV.v (Value.int IntKind.i64 (0 : Int))), (DV.v (Value.int IntKind.i64 (0 : Int))), (DV.v (Value.int IntKind.i64 (0 : Int))), (DV.v (Value.int IntKind.i64 (0 : Int))), (DV.v (Value.bool false))]]).take (1)))).length)), (a0_1, ())), ((0 : Int), ()))))))))))) : R a0_0 a0_1 a1 a2_0 a2_1 a2_2 a2_3 a2_4 a2_5 a2_6 a2_7 a3 = some c := start_rule (n := 400) (lv := lv) (noSum_ok _) (by kernel_rfl) h
end hist_Invoke
/-! garrison/hist.Answer -/
namespace hist_Answer
def lv : Live := []
theorem start (a0_0 : List (List DV)) (a0_1 : List (List DV)) (a1 : Int) (a2_0 : Int) (a2_1 : Int) (a2_2 : Int) (a2_3 : Bool) (a3 : Int) (c : ((List (List DV) × (List (List DV) × Unit)) × (Int × Unit))) (h :
    optAll (hist_Pending.R a0_0 a0_1 a1) fun (c0 : (Int × (Bool × Unit))) =>
    optAll (hist_Check.R a0_0 a0_1) fun (c1 : (Int × Unit)) =>
    cond (((c1).1 != (0 : Int))) (
      c = ((a0_0, (a0_1, ())), ((180 : Int), ()))) (
      cond ((!((c0).2).1)) (
        c = ((a0_0, (a0_1, ())), ((7 : Int), ()))) (
        needs ((0 : Int) ≤ (c0).1) (
        optAll ((a0_0)[(Int.toNat (c0).1)]?) fun (r2 : List DV) =>
        optAll ((dInt IntKind.i64 r2 9)) fun (z3 : Int) =>
        cond (decide ((a3 < z3))) (
          c = ((a0_0, (a0_1, ())), ((2 : Int), ()))) (
          needs ((((a0_0).length * 120) ≤ 140737488355328) ∧ (((a0_0).length * 15) ≤ 140737488355328)) (
          needs (((0 : Int) ≤ (c0).1) ∧ ((c0).1 < (((a0_0).length : Nat) : Int))) (
          optAll ((a0_0)[(0 + (Int.toNat (c0).1))]?) fun (r4 : List DV) =>
          needs (11 ≤ (r4).length) (
          needs (((0 : Int) ≤ (c0).1) ∧ ((c0).1 < (((a0_0).length : Nat) : Int))) (
          optAll ((((a0_0).set ((0 + (Int.toNat (c0).1))) (putD r4 10 [(DV.v (Value.int IntKind.i64 a3))])))[(0 + (Int.toNat (c0).1))]?) fun (r5 : List DV) =>
          needs (15 ≤ (r5).length) (
          c = ((((((((a0_0).set ((0 + (Int.toNat (c0).1))) (putD r4 10 [(DV.v (Value.int IntKind.i64 a3))]))).set ((0 + (Int.toNat (c0).1))) (putD r5 11 [(DV.v (Value.int IntKind.i64 a2_0)), (DV.v (Value.int IntKind.i64 a2_1)), (DV.v (Value.int IntKind.i64 a2_2)), (DV.v (Value.bool a2_3))]))).take ((a0_0).length)), (a0_1, ())), ((0 : Int), ())))))))))))) : R a0_0 a0_1 a1 a2_0 a2_1 a2_2 a2_3 a3 = some c := start_rule (n := 400) (lv := lv) (noSum_ok _) (by kernel_rfl) h
end hist_Answer
/-! garrison/hist.Note -/
namespace hist_Note
def lv : Live := []
theorem start (a0_0 : List (List DV)) (a0_1 : List (List DV)) (a1_0 : Int) (a1_1 : Int) (a1_2 : Int) (a1_3 : Int) (a1_4 : Int) (a1_5 : Int) (a1_6 : Int) (a1_7 : Int) (a1_8 : Int) (a1_9 : Int) (a1_10 : Int) (a1_11 : List (List DV)) (c : ((List (List DV) × (List (List DV) × Unit)) × (Int × Unit))) (h :
    optAll (hist_Check.R a0_0 a0_1) fun (c0 : (Int × Unit)) =>
    cond (((c0).1 != (0 : Int))) (
      c = ((a0_0, (a0_1, ())), ((180 : Int), ()))) (
      optAll (hist_isEvent.R a1_0 a1_1 a1_2 a1_3 a1_4 a1_5 a1_6 a1_7 a1_8 a1_9 a1_10 a1_11 a0_1) fun (c1 : (Bool × Unit)) =>
      cond ((!(c1).1)) (
        c = ((a0_0, (a0_1, ())), ((2 : Int), ()))) (
        needs ((((a0_1).length * 112) ≤ 140737488355328) ∧ (((a0_1).length * 12) ≤ 140737488355328)) (
        needs ((a0_1).length = (a0_1).length) (
        needs (((((a0_1 ++ (([[(DV.v (Value.int IntKind.i64 a1_0)), (DV.v (Value.int IntKind.i64 a1_1)), (DV.v (Value.int IntKind.i64 a1_2)), (DV.v (Value.int IntKind.u64 a1_3)), (DV.v (Value.int IntKind.u64 a1_4)), (DV.v (Value.int IntKind.i64 a1_5)), (DV.v (Value.int IntKind.i64 a1_6)), (DV.v (Value.int IntKind.i64 a1_7)), (DV.v (Value.int IntKind.i64 a1_8)), (DV.v (Value.int IntKind.i64 a1_9)), (DV.v (Value.int IntKind.i64 a1_10)), (DV.lst 5 a1_11)]]).take (1)))).length * 112) ≤ 140737488355328) ∧ ((((a0_1 ++ (([[(DV.v (Value.int IntKind.i64 a1_0)), (DV.v (Value.int IntKind.i64 a1_1)), (DV.v (Value.int IntKind.i64 a1_2)), (DV.v (Value.int IntKind.u64 a1_3)), (DV.v (Value.int IntKind.u64 a1_4)), (DV.v (Value.int IntKind.i64 a1_5)), (DV.v (Value.int IntKind.i64 a1_6)), (DV.v (Value.int IntKind.i64 a1_7)), (DV.v (Value.int IntKind.i64 a1_8)), (DV.v (Value.int IntKind.i64 a1_9)), (DV.v (Value.int IntKind.i64 a1_10)), (DV.lst 5 a1_11)]]).take (1)))).length * 12) ≤ 140737488355328)) (
        c = ((a0_0, ((((a0_1 ++ (([[(DV.v (Value.int IntKind.i64 a1_0)), (DV.v (Value.int IntKind.i64 a1_1)), (DV.v (Value.int IntKind.i64 a1_2)), (DV.v (Value.int IntKind.u64 a1_3)), (DV.v (Value.int IntKind.u64 a1_4)), (DV.v (Value.int IntKind.i64 a1_5)), (DV.v (Value.int IntKind.i64 a1_6)), (DV.v (Value.int IntKind.i64 a1_7)), (DV.v (Value.int IntKind.i64 a1_8)), (DV.v (Value.int IntKind.i64 a1_9)), (DV.v (Value.int IntKind.i64 a1_10)), (DV.lst 5 a1_11)]]).take (1)))).take (((a0_1 ++ (([[(DV.v (Value.int IntKind.i64 a1_0)), (DV.v (Value.int IntKind.i64 a1_1)), (DV.v (Value.int IntKind.i64 a1_2)), (DV.v (Value.int IntKind.u64 a1_3)), (DV.v (Value.int IntKind.u64 a1_4)), (DV.v (Value.int IntKind.i64 a1_5)), (DV.v (Value.int IntKind.i64 a1_6)), (DV.v (Value.int IntKind.i64 a1_7)), (DV.v (Value.int IntKind.i64 a1_8)), (DV.v (Value.int IntKind.i64 a1_9)), (DV.v (Value.int IntKind.i64 a1_10)), (DV.lst 5 a1_11)]]).take (1)))).length)), ())), ((0 : Int), ())))))))) : R a0_0 a0_1 a1_0 a1_1 a1_2 a1_3 a1_4 a1_5 a1_6 a1_7 a1_8 a1_9 a1_10 a1_11 = some c := start_rule (n := 400) (lv := lv) (noSum_ok _) (by kernel_rfl) h
end hist_Note
/-! garrison/garrisonref18.Invoke -/
namespace ref18_Invoke
def lv : Live := []
theorem start (a0_0 : List (List DV)) (a0_1 : List (List DV)) (a1 : Int) (a2_0 : Int) (a2_1 : Int) (a2_2 : Int) (a2_3 : Int) (a2_4 : Int) (a2_5 : Int) (a2_6 : Int) (a2_7 : Int) (a3 : Int) (c : ((List (List DV) × (List (List DV) × Unit)) × (Int × Unit))) (h :
    optAll (ref18_Is.R a0_0 a0_1) fun (c0 : (Bool × Unit)) =>
    cond ((!(c0).1)) (
      c = ((a0_0, (a0_1, ())), ((180 : Int), ()))) (
      optAll (ref18_core.R a1) fun (c1 : (Bool × Unit)) =>
      cond ((!(c1).1)) (
        c = ((a0_0, (a0_1, ())), ((2 : Int), ()))) (
        cond (decide ((a3 < (1 : Int)))) (
          c = ((a0_0, (a0_1, ())), ((2 : Int), ()))) (
          cond (decide (((((a0_0).length : Nat) : Int) > (0 : Int)))) (
            needs ((0 : Int) ≤ (IntKind.i64.wrap ((((a0_0).length : Nat) : Int) - (1 : Int)))) (
            optAll ((a0_0)[(Int.toNat (IntKind.i64.wrap ((((a0_0).length : Nat) : Int) - (1 : Int))))]?) fun (r2 : List DV) =>
            optAll ((dInt IntKind.i64 r2 9)) fun (z3 : Int) =>
            cond (decide ((a3 < z3))) (
              c = ((a0_0, (a0_1, ())), ((2 : Int), ()))) (
              optAll (ref18_last.R a0_0 a1 (((a0_0).length : Nat) : Int)) fun (c4 : (Int × Unit)) =>
              cond (decide (((c4).1 ≥ (0 : Int)))) (
                needs ((0 : Int) ≤ (c4).1) (
                optAll ((a0_0)[(Int.toNat (c4).1)]?) fun (r5 : List DV) =>
                optAll ((dInt IntKind.i64 r5 10)) fun (z6 : Int) =>
                cond ((z6 == (0 : Int))) (
                  c = ((a0_0, (a0_1, ())), ((8 : Int), ()))) (
                  needs ((0 : Int) ≤ (c4).1) (
                  optAll ((a0_0)[(Int.toNat (c4).1)]?) fun (r7 : List DV) =>
                  optAll ((dInt IntKind.i64 r7 10)) fun (z8 : Int) =>
                  cond (decide ((z8 ≥ a3))) (
                    c = ((a0_0, (a0_1, ())), ((8 : Int), ()))) (
                    needs ((((a0_0).length * 120) ≤ 140737488355328) ∧ (((a0_0).length * 15) ≤ 140737488355328)) (
                    needs ((a0_0).length = (a0_0).length) (
                    needs (((((a0_0 ++ (([[(DV.v (Value.int IntKind.i64 a1)), (DV.v (Value.int IntKind.i64 a2_0)), (DV.v (Value.int IntKind.u64 a2_1)), (DV.v (Value.int IntKind.u64 a2_2)), (DV.v (Value.int IntKind.i64 a2_3)), (DV.v (Value.int IntKind.i64 a2_4)), (DV.v (Value.int IntKind.i64 a2_5)), (DV.v (Value.int IntKind.i64 a2_6)), (DV.v (Value.int IntKind.i64 a2_7)), (DV.v (Value.int IntKind.i64 a3)), (DV.v (Value.int IntKind.i64 (0 : Int))), (DV.v (Value.int IntKind.i64 (0 : Int))), (DV.v (Value.int IntKind.i64 (0 : Int))), (DV.v (Value.int IntKind.i64 (0 : Int))), (DV.v (Value.bool false))]]).take (1)))).length * 120) ≤ 140737488355328) ∧ ((((a0_0 ++ (([[(DV.v (Value.int IntKind.i64 a1)), (DV.v (Value.int IntKind.i64 a2_0)), (DV.v (Value.int IntKind.u64 a2_1)), (DV.v (Value.int IntKind.u64 a2_2)), (DV.v (Value.int IntKind.i64 a2_3)), (DV.v (Value.int IntKind.i64 a2_4)), (DV.v (Value.int IntKind.i64 a2_5)), (DV.v (Value.int IntKind.i64 a2_6)), (DV.v (Value.int IntKind.i64 a2_7)), (DV.v (Value.int IntKind.i64 a3)), (DV.v (Value.int IntKind.i64 (0 : Int))), (DV.v (Value.int IntKind.i64 (0 : Int))), (DV.v (Value.int IntKind.i64 (0 : Int))), (DV.v (Value.int IntKind.i64 (0 : Int))), (DV.v (Value.bool false))]]).take (1)))).length * 15) ≤ 140737488355328)) (
                    c = (((((a0_0 ++ (([[(DV.v (Value.int IntKind.i64 a1)), (DV.v (Value.int IntKind.i64 a2_0)), (DV.v (Value.int IntKind.u64 a2_1)), (DV.v (Value.int IntKind.u64 a2_2)), (DV.v (Value.int IntKind.i64 a2_3)), (DV.v (Value.int IntKind.i64 a2_4)), (DV.v (Value.int IntKind.i64 a2_5)), (DV.v (Value.int IntKind.i64 a2_6)), (DV.v (Value.int IntKind.i64 a2_7)), (DV.v (Value.int IntKind.i64 a3)), (DV.v (Value.int IntKind.i64 (0 : Int))), (DV.v (Value.int IntKind.i64 (0 : Int))), (DV.v (Value.int IntKind.i64 (0 : Int))), (DV.v (Value.int IntKind.i64 (0 : Int))), (DV.v (Value.bool false))]]).take (1)))).take (((a0_0 ++ (([[(DV.v (Value.int IntKind.i64 a1)), (DV.v (Value.int IntKind.i64 a2_0)), (DV.v (Value.int IntKind.u64 a2_1)), (DV.v (Value.int IntKind.u64 a2_2)), (DV.v (Value.int IntKind.i64 a2_3)), (DV.v (Value.int IntKind.i64 a2_4)), (DV.v (Value.int IntKind.i64 a2_5)), (DV.v (Value.int IntKind.i64 a2_6)), (DV.v (Value.int IntKind.i64 a2_7)), (DV.v (Value.int IntKind.i64 a3)), (DV.v (Value.int IntKind.i64 (0 : Int))), (DV.v (Value.int IntKind.i64 (0 : Int))), (DV.v (Value.int IntKind.i64 (0 : Int))), (DV.v (Value.int IntKind.i64 (0 : Int))), (DV.v (Value.bool false))]]).take (1)))).length)), (a0_1, ())), ((0 : Int), ())))))))))) (
                needs ((((a0_0).length * 120) ≤ 140737488355328) ∧ (((a0_0).length * 15) ≤ 140737488355328)) (
                needs ((a0_0).length = (a0_0).length) (
                needs (((((a0_0 ++ (([[(DV.v (Value.int IntKind.i64 a1)), (DV.v (Value.int IntKind.i64 a2_0)), (DV.v (Value.int IntKind.u64 a2_1)), (DV.v (Value.int IntKind.u64 a2_2)), (DV.v (Value.int IntKind.i64 a2_3)), (DV.v (Value.int IntKind.i64 a2_4)), (DV.v (Value.int IntKind.i64 a2_5)), (DV.v (Value.int IntKind.i64 a2_6)), (DV.v (Value.int IntKind.i64 a2_7)), (DV.v (Value.int IntKind.i64 a3)), (DV.v (Value.int IntKind.i64 (0 : Int))), (DV.v (Value.int IntKind.i64 (0 : Int))), (DV.v (Value.int IntKind.i64 (0 : Int))), (DV.v (Value.int IntKind.i64 (0 : Int))), (DV.v (Value.bool false))]]).take (1)))).length * 120) ≤ 140737488355328) ∧ ((((a0_0 ++ (([[(DV.v (Value.int IntKind.i64 a1)), (DV.v (Value.int IntKind.i64 a2_0)), (DV.v (Value.int IntKind.u64 a2_1)), (DV.v (Value.int IntKind.u64 a2_2)), (DV.v (Value.int IntKind.i64 a2_3)), (DV.v (Value.int IntKind.i64 a2_4)), (DV.v (Value.int IntKind.i64 a2_5)), (DV.v (Value.int IntKind.i64 a2_6)), (DV.v (Value.int IntKind.i64 a2_7)), (DV.v (Value.int IntKind.i64 a3)), (DV.v (Value.int IntKind.i64 (0 : Int))), (DV.v (Value.int IntKind.i64 (0 : Int))), (DV.v (Value.int IntKind.i64 (0 : Int))), (DV.v (Value.int IntKind.i64 (0 : Int))), (DV.v (Value.bool false))]]).take (1)))).length * 15) ≤ 140737488355328)) (
                c = (((((a0_0 ++ (([[(DV.v (Value.int IntKind.i64 a1)), (DV.v (Value.int IntKind.i64 a2_0)), (DV.v (Value.int IntKind.u64 a2_1)), (DV.v (Value.int IntKind.u64 a2_2)), (DV.v (Value.int IntKind.i64 a2_3)), (DV.v (Value.int IntKind.i64 a2_4)), (DV.v (Value.int IntKind.i64 a2_5)), (DV.v (Value.int IntKind.i64 a2_6)), (DV.v (Value.int IntKind.i64 a2_7)), (DV.v (Value.int IntKind.i64 a3)), (DV.v (Value.int IntKind.i64 (0 : Int))), (DV.v (Value.int IntKind.i64 (0 : Int))), (DV.v (Value.int IntKind.i64 (0 : Int))), (DV.v (Value.int IntKind.i64 (0 : Int))), (DV.v (Value.bool false))]]).take (1)))).take (((a0_0 ++ (([[(DV.v (Value.int IntKind.i64 a1)), (DV.v (Value.int IntKind.i64 a2_0)), (DV.v (Value.int IntKind.u64 a2_1)), (DV.v (Value.int IntKind.u64 a2_2)), (DV.v (Value.int IntKind.i64 a2_3)), (DV.v (Value.int IntKind.i64 a2_4)), (DV.v (Value.int IntKind.i64 a2_5)), (DV.v (Value.int IntKind.i64 a2_6)), (DV.v (Value.int IntKind.i64 a2_7)), (DV.v (Value.int IntKind.i64 a3)), (DV.v (Value.int IntKind.i64 (0 : Int))), (DV.v (Value.int IntKind.i64 (0 : Int))), (DV.v (Value.int IntKind.i64 (0 : Int))), (DV.v (Value.int IntKind.i64 (0 : Int))), (DV.v (Value.bool false))]]).take (1)))).length)), (a0_1, ())), ((0 : Int), ()))))))))) (
            optAll (ref18_last.R a0_0 a1 (((a0_0).length : Nat) : Int)) fun (c9 : (Int × Unit)) =>
            cond (decide (((c9).1 ≥ (0 : Int)))) (
              needs ((0 : Int) ≤ (c9).1) (
              optAll ((a0_0)[(Int.toNat (c9).1)]?) fun (r10 : List DV) =>
              optAll ((dInt IntKind.i64 r10 10)) fun (z11 : Int) =>
              cond ((z11 == (0 : Int))) (
                c = ((a0_0, (a0_1, ())), ((8 : Int), ()))) (
                needs ((0 : Int) ≤ (c9).1) (
                optAll ((a0_0)[(Int.toNat (c9).1)]?) fun (r12 : List DV) =>
                optAll ((dInt IntKind.i64 r12 10)) fun (z13 : Int) =>
                cond (decide ((z13 ≥ a3))) (
                  c = ((a0_0, (a0_1, ())), ((8 : Int), ()))) (
                  needs ((((a0_0).length * 120) ≤ 140737488355328) ∧ (((a0_0).length * 15) ≤ 140737488355328)) (
                  needs ((a0_0).length = (a0_0).length) (
                  needs (((((a0_0 ++ (([[(DV.v (Value.int IntKind.i64 a1)), (DV.v (Value.int IntKind.i64 a2_0)), (DV.v (Value.int IntKind.u64 a2_1)), (DV.v (Value.int IntKind.u64 a2_2)), (DV.v (Value.int IntKind.i64 a2_3)), (DV.v (Value.int IntKind.i64 a2_4)), (DV.v (Value.int IntKind.i64 a2_5)), (DV.v (Value.int IntKind.i64 a2_6)), (DV.v (Value.int IntKind.i64 a2_7)), (DV.v (Value.int IntKind.i64 a3)), (DV.v (Value.int IntKind.i64 (0 : Int))), (DV.v (Value.int IntKind.i64 (0 : Int))), (DV.v (Value.int IntKind.i64 (0 : Int))), (DV.v (Value.int IntKind.i64 (0 : Int))), (DV.v (Value.bool false))]]).take (1)))).length * 120) ≤ 140737488355328) ∧ ((((a0_0 ++ (([[(DV.v (Value.int IntKind.i64 a1)), (DV.v (Value.int IntKind.i64 a2_0)), (DV.v (Value.int IntKind.u64 a2_1)), (DV.v (Value.int IntKind.u64 a2_2)), (DV.v (Value.int IntKind.i64 a2_3)), (DV.v (Value.int IntKind.i64 a2_4)), (DV.v (Value.int IntKind.i64 a2_5)), (DV.v (Value.int IntKind.i64 a2_6)), (DV.v (Value.int IntKind.i64 a2_7)), (DV.v (Value.int IntKind.i64 a3)), (DV.v (Value.int IntKind.i64 (0 : Int))), (DV.v (Value.int IntKind.i64 (0 : Int))), (DV.v (Value.int IntKind.i64 (0 : Int))), (DV.v (Value.int IntKind.i64 (0 : Int))), (DV.v (Value.bool false))]]).take (1)))).length * 15) ≤ 140737488355328)) (
                  c = (((((a0_0 ++ (([[(DV.v (Value.int IntKind.i64 a1)), (DV.v (Value.int IntKind.i64 a2_0)), (DV.v (Value.int IntKind.u64 a2_1)), (DV.v (Value.int IntKind.u64 a2_2)), (DV.v (Value.int IntKind.i64 a2_3)), (DV.v (Value.int IntKind.i64 a2_4)), (DV.v (Value.int IntKind.i64 a2_5)), (DV.v (Value.int IntKind.i64 a2_6)), (DV.v (Value.int IntKind.i64 a2_7)), (DV.v (Value.int IntKind.i64 a3)), (DV.v (Value.int IntKind.i64 (0 : Int))), (DV.v (Value.int IntKind.i64 (0 : Int))), (DV.v (Value.int IntKind.i64 (0 : Int))), (DV.v (Value.int IntKind.i64 (0 : Int))), (DV.v (Value.bool false))]]).take (1)))).take (((a0_0 ++ (([[(DV.v (Value.int IntKind.i64 a1)), (DV.v (Value.int IntKind.i64 a2_0)), (DV.v (Value.int IntKind.u64 a2_1)), (DV.v (Value.int IntKind.u64 a2_2)), (DV.v (Value.int IntKind.i64 a2_3)), (DV.v (Value.int IntKind.i64 a2_4)), (DV.v (Value.int IntKind.i64 a2_5)), (DV.v (Value.int IntKind.i64 a2_6)), (DV.v (Value.int IntKind.i64 a2_7)), (DV.v (Value.int IntKind.i64 a3)), (DV.v (Value.int IntKind.i64 (0 : Int))), (DV.v (Value.int IntKind.i64 (0 : Int))), (DV.v (Value.int IntKind.i64 (0 : Int))), (DV.v (Value.int IntKind.i64 (0 : Int))), (DV.v (Value.bool false))]]).take (1)))).length)), (a0_1, ())), ((0 : Int), ())))))))))) (
              needs ((((a0_0).length * 120) ≤ 140737488355328) ∧ (((a0_0).length * 15) ≤ 140737488355328)) (
              needs ((a0_0).length = (a0_0).length) (
              needs (((((a0_0 ++ (([[(DV.v (Value.int IntKind.i64 a1)), (DV.v (Value.int IntKind.i64 a2_0)), (DV.v (Value.int IntKind.u64 a2_1)), (DV.v (Value.int IntKind.u64 a2_2)), (DV.v (Value.int IntKind.i64 a2_3)), (DV.v (Value.int IntKind.i64 a2_4)), (DV.v (Value.int IntKind.i64 a2_5)), (DV.v (Value.int IntKind.i64 a2_6)), (DV.v (Value.int IntKind.i64 a2_7)), (DV.v (Value.int IntKind.i64 a3)), (DV.v (Value.int IntKind.i64 (0 : Int))), (DV.v (Value.int IntKind.i64 (0 : Int))), (DV.v (Value.int IntKind.i64 (0 : Int))), (DV.v (Value.int IntKind.i64 (0 : Int))), (DV.v (Value.bool false))]]).take (1)))).length * 120) ≤ 140737488355328) ∧ ((((a0_0 ++ (([[(DV.v (Value.int IntKind.i64 a1)), (DV.v (Value.int IntKind.i64 a2_0)), (DV.v (Value.int IntKind.u64 a2_1)), (DV.v (Value.int IntKind.u64 a2_2)), (DV.v (Value.int IntKind.i64 a2_3)), (DV.v (Value.int IntKind.i64 a2_4)), (DV.v (Value.int IntKind.i64 a2_5)), (DV.v (Value.int IntKind.i64 a2_6)), (DV.v (Value.int IntKind.i64 a2_7)), (DV.v (Value.int IntKind.i64 a3)), (DV.v (Value.int IntKind.i64 (0 : Int))), (DV.v (Value.int IntKind.i64 (0 : Int))), (DV.v (Value.int IntKind.i64 (0 : Int))), (DV.v (Value.int IntKind.i64 (0 : Int))), (DV.v (Value.bool false))]]).take (1)))).length * 15) ≤ 140737488355328)) (
              c = (((((a0_0 ++ (([[(DV.v (Value.int IntKind.i64 a1)), (DV.v (Value.int IntKind.i64 a2_0)), (DV.v (Value.int IntKind.u64 a2_1)), (DV.v (Value.int IntKind.u64 a2_2)), (DV.v (Value.int IntKind.i64 a2_3)), (DV.v (Value.int IntKind.i64 a2_4)), (DV.v (Value.int IntKind.i64 a2_5)), (DV.v (Value.int IntKind.i64 a2_6)), (DV.v (Value.int IntKind.i64 a2_7)), (DV.v (Value.int IntKind.i64 a3)), (DV.v (Value.int IntKind.i64 (0 : Int))), (DV.v (Value.int IntKind.i64 (0 : Int))), (DV.v (Value.int IntKind.i64 (0 : Int))), (DV.v (Value.int IntKind.i64 (0 : Int))), (DV.v (Value.bool false))]]).take (1)))).take (((a0_0 ++ (([[(DV.v (Value.int IntKind.i64 a1)), (DV.v (Value.int IntKind.i64 a2_0)), (DV.v (Value.int IntKind.u64 a2_1)), (DV.v (Value.int IntKind.u64 a2_2)), (DV.v (Value.int IntKind.i64 a2_3)), (DV.v (Value.int IntKind.i64 a2_4)), (DV.v (Value.int IntKind.i64 a2_5)), (DV.v (Value.int IntKind.i64 a2_6)), (DV.v (Value.int IntKind.i64 a2_7)), (DV.v (Value.int IntKind.i64 a3)), (DV.v (Value.int IntKind.i64 (0 : Int))), (DV.v (Value.int IntKind.i64 (0 : Int))), (DV.v (Value.int IntKind.i64 (0 : Int))), (DV.v (Value.int IntKind.i64 (0 : Int))), (DV.v (Value.bool false))]]).take (1)))).length)), (a0_1, ())), ((0 : Int), ()))))))))))) : R a0_0 a0_1 a1 a2_0 a2_1 a2_2 a2_3 a2_4 a2_5 a2_6 a2_7 a3 = some c := start_rule (n := 400) (lv := lv) (noSum_ok _) (by kernel_rfl) h
end ref18_Invoke
/-! garrison/garrisonref18.Answer -/
namespace ref18_Answer
def lv : Live := []
theorem start (a0_0 : List (List DV)) (a0_1 : List (List DV)) (a1 : Int) (a2_0 : Int) (a2_1 : Int) (a2_2 : Int) (a2_3 : Bool) (a3 : Int) (c : ((List (List DV) × (List (List DV) × Unit)) × (Int × Unit))) (h :
    optAll (ref18_Is.R a0_0 a0_1) fun (c0 : (Bool × Unit)) =>
    cond ((!(c0).1)) (
      c = ((a0_0, (a0_1, ())), ((180 : Int), ()))) (
      optAll (ref18_Pending.R a0_0 a0_1 a1) fun (c1 : (Int × (Bool × Unit))) =>
      cond ((!((c1).2).1)) (
        c = ((a0_0, (a0_1, ())), ((7 : Int), ()))) (
        needs ((0 : Int) ≤ (c1).1) (
        optAll ((a0_0)[(Int.toNat (c1).1)]?) fun (r2 : List DV) =>
        optAll ((dInt IntKind.i64 r2 9)) fun (z3 : Int) =>
        cond (decide ((a3 < z3))) (
          c = ((a0_0, (a0_1, ())), ((2 : Int), ()))) (
          needs ((((a0_0).length * 120) ≤ 140737488355328) ∧ (((a0_0).length * 15) ≤ 140737488355328)) (
          needs (((0 : Int) ≤ (c1).1) ∧ ((c1).1 < (((a0_0).length : Nat) : Int))) (
          optAll ((a0_0)[(0 + (Int.toNat (c1).1))]?) fun (r4 : List DV) =>
          needs (11 ≤ (r4).length) (
          needs (((0 : Int) ≤ (c1).1) ∧ ((c1).1 < (((a0_0).length : Nat) : Int))) (
          optAll ((((a0_0).set ((0 + (Int.toNat (c1).1))) (putD r4 10 [(DV.v (Value.int IntKind.i64 a3))])))[(0 + (Int.toNat (c1).1))]?) fun (r5 : List DV) =>
          needs (15 ≤ (r5).length) (
          c = ((((((((a0_0).set ((0 + (Int.toNat (c1).1))) (putD r4 10 [(DV.v (Value.int IntKind.i64 a3))]))).set ((0 + (Int.toNat (c1).1))) (putD r5 11 [(DV.v (Value.int IntKind.i64 a2_0)), (DV.v (Value.int IntKind.i64 a2_1)), (DV.v (Value.int IntKind.i64 a2_2)), (DV.v (Value.bool a2_3))]))).take ((a0_0).length)), (a0_1, ())), ((0 : Int), ())))))))))))) : R a0_0 a0_1 a1 a2_0 a2_1 a2_2 a2_3 a3 = some c := start_rule (n := 400) (lv := lv) (noSum_ok _) (by kernel_rfl) h
end ref18_Answer
/-! garrison/garrisonref18.Note -/
namespace ref18_Note
def lv : Live := []
theorem start (a0_0 : List (List DV)) (a0_1 : List (List DV)) (a1_0 : Int) (a1_1 : Int) (a1_2 : Int) (a1_3 : Int) (a1_4 : Int) (a1_5 : Int) (a1_6 : Int) (a1_7 : Int) (a1_8 : Int) (a1_9 : Int) (a1_10 : Int) (a1_11 : List (List DV)) (c : ((List (List DV) × (List (List DV) × Unit)) × (Int × Unit))) (h :
    optAll (ref18_Is.R a0_0 a0_1) fun (c0 : (Bool × Unit)) =>
    cond ((!(c0).1)) (
      c = ((a0_0, (a0_1, ())), ((180 : Int), ()))) (
      cond (decide ((a1_0 < (0 : Int)))) (
        c = ((a0_0, (a0_1, ())), ((2 : Int), ()))) (
        cond (decide ((a1_0 > (3 : Int)))) (
          c = ((a0_0, (a0_1, ())), ((2 : Int), ()))) (
          optAll (ref18_core.R a1_1) fun (c1 : (Bool × Unit)) =>
          cond ((!(c1).1)) (
            c = ((a0_0, (a0_1, ())), ((2 : Int), ()))) (
            cond (decide ((a1_10 < (1 : Int)))) (
              c = ((a0_0, (a0_1, ())), ((2 : Int), ()))) (
              cond (decide (((((a0_1).length : Nat) : Int) > (0 : Int)))) (
                needs ((0 : Int) ≤ (IntKind.i64.wrap ((((a0_1).length : Nat) : Int) - (1 : Int)))) (
                optAll ((a0_1)[(Int.toNat (IntKind.i64.wrap ((((a0_1).length : Nat) : Int) - (1 : Int))))]?) fun (r2 : List DV) =>
                optAll ((dInt IntKind.i64 r2 10)) fun (z3 : Int) =>
                cond (decide ((a1_10 ≤ z3))) (
                  c = ((a0_0, (a0_1, ())), ((2 : Int), ()))) (
                  needs ((((a0_1).length * 112) ≤ 140737488355328) ∧ (((a0_1).length * 12) ≤ 140737488355328)) (
                  needs ((a0_1).length = (a0_1).length) (
                  needs (((((a0_1 ++ (([[(DV.v (Value.int IntKind.i64 a1_0)), (DV.v (Value.int IntKind.i64 a1_1)), (DV.v (Value.int IntKind.i64 a1_2)), (DV.v (Value.int IntKind.u64 a1_3)), (DV.v (Value.int IntKind.u64 a1_4)), (DV.v (Value.int IntKind.i64 a1_5)), (DV.v (Value.int IntKind.i64 a1_6)), (DV.v (Value.int IntKind.i64 a1_7)), (DV.v (Value.int IntKind.i64 a1_8)), (DV.v (Value.int IntKind.i64 a1_9)), (DV.v (Value.int IntKind.i64 a1_10)), (DV.lst 5 a1_11)]]).take (1)))).length * 112) ≤ 140737488355328) ∧ ((((a0_1 ++ (([[(DV.v (Value.int IntKind.i64 a1_0)), (DV.v (Value.int IntKind.i64 a1_1)), (DV.v (Value.int IntKind.i64 a1_2)), (DV.v (Value.int IntKind.u64 a1_3)), (DV.v (Value.int IntKind.u64 a1_4)), (DV.v (Value.int IntKind.i64 a1_5)), (DV.v (Value.int IntKind.i64 a1_6)), (DV.v (Value.int IntKind.i64 a1_7)), (DV.v (Value.int IntKind.i64 a1_8)), (DV.v (Value.int IntKind.i64 a1_9)), (DV.v (Value.int IntKind.i64 a1_10)), (DV.lst 5 a1_11)]]).take (1)))).length * 12) ≤ 140737488355328)) (
                  c = ((a0_0, ((((a0_1 ++ (([[(DV.v (Value.int IntKind.i64 a1_0)), (DV.v (Value.int IntKind.i64 a1_1)), (DV.v (Value.int IntKind.i64 a1_2)), (DV.v (Value.int IntKind.u64 a1_3)), (DV.v (Value.int IntKind.u64 a1_4)), (DV.v (Value.int IntKind.i64 a1_5)), (DV.v (Value.int IntKind.i64 a1_6)), (DV.v (Value.int IntKind.i64 a1_7)), (DV.v (Value.int IntKind.i64 a1_8)), (DV.v (Value.int IntKind.i64 a1_9)), (DV.v (Value.int IntKind.i64 a1_10)), (DV.lst 5 a1_11)]]).take (1)))).take (((a0_1 ++ (([[(DV.v (Value.int IntKind.i64 a1_0)), (DV.v (Value.int IntKind.i64 a1_1)), (DV.v (Value.int IntKind.i64 a1_2)), (DV.v (Value.int IntKind.u64 a1_3)), (DV.v (Value.int IntKind.u64 a1_4)), (DV.v (Value.int IntKind.i64 a1_5)), (DV.v (Value.int IntKind.i64 a1_6)), (DV.v (Value.int IntKind.i64 a1_7)), (DV.v (Value.int IntKind.i64 a1_8)), (DV.v (Value.int IntKind.i64 a1_9)), (DV.v (Value.int IntKind.i64 a1_10)), (DV.lst 5 a1_11)]]).take (1)))).length)), ())), ((0 : Int), ())))))))) (
                needs ((((a0_1).length * 112) ≤ 140737488355328) ∧ (((a0_1).length * 12) ≤ 140737488355328)) (
                needs ((a0_1).length = (a0_1).length) (
                needs (((((a0_1 ++ (([[(DV.v (Value.int IntKind.i64 a1_0)), (DV.v (Value.int IntKind.i64 a1_1)), (DV.v (Value.int IntKind.i64 a1_2)), (DV.v (Value.int IntKind.u64 a1_3)), (DV.v (Value.int IntKind.u64 a1_4)), (DV.v (Value.int IntKind.i64 a1_5)), (DV.v (Value.int IntKind.i64 a1_6)), (DV.v (Value.int IntKind.i64 a1_7)), (DV.v (Value.int IntKind.i64 a1_8)), (DV.v (Value.int IntKind.i64 a1_9)), (DV.v (Value.int IntKind.i64 a1_10)), (DV.lst 5 a1_11)]]).take (1)))).length * 112) ≤ 140737488355328) ∧ ((((a0_1 ++ (([[(DV.v (Value.int IntKind.i64 a1_0)), (DV.v (Value.int IntKind.i64 a1_1)), (DV.v (Value.int IntKind.i64 a1_2)), (DV.v (Value.int IntKind.u64 a1_3)), (DV.v (Value.int IntKind.u64 a1_4)), (DV.v (Value.int IntKind.i64 a1_5)), (DV.v (Value.int IntKind.i64 a1_6)), (DV.v (Value.int IntKind.i64 a1_7)), (DV.v (Value.int IntKind.i64 a1_8)), (DV.v (Value.int IntKind.i64 a1_9)), (DV.v (Value.int IntKind.i64 a1_10)), (DV.lst 5 a1_11)]]).take (1)))).length * 12) ≤ 140737488355328)) (
                c = ((a0_0, ((((a0_1 ++ (([[(DV.v (Value.int IntKind.i64 a1_0)), (DV.v (Value.int IntKind.i64 a1_1)), (DV.v (Value.int IntKind.i64 a1_2)), (DV.v (Value.int IntKind.u64 a1_3)), (DV.v (Value.int IntKind.u64 a1_4)), (DV.v (Value.int IntKind.i64 a1_5)), (DV.v (Value.int IntKind.i64 a1_6)), (DV.v (Value.int IntKind.i64 a1_7)), (DV.v (Value.int IntKind.i64 a1_8)), (DV.v (Value.int IntKind.i64 a1_9)), (DV.v (Value.int IntKind.i64 a1_10)), (DV.lst 5 a1_11)]]).take (1)))).take (((a0_1 ++ (([[(DV.v (Value.int IntKind.i64 a1_0)), (DV.v (Value.int IntKind.i64 a1_1)), (DV.v (Value.int IntKind.i64 a1_2)), (DV.v (Value.int IntKind.u64 a1_3)), (DV.v (Value.int IntKind.u64 a1_4)), (DV.v (Value.int IntKind.i64 a1_5)), (DV.v (Value.int IntKind.i64 a1_6)), (DV.v (Value.int IntKind.i64 a1_7)), (DV.v (Value.int IntKind.i64 a1_8)), (DV.v (Value.int IntKind.i64 a1_9)), (DV.v (Value.int IntKind.i64 a1_10)), (DV.lst 5 a1_11)]]).take (1)))).length)), ())), ((0 : Int), ())))))))))))) : R a0_0 a0_1 a1_0 a1_1 a1_2 a1_3 a1_4 a1_5 a1_6 a1_7 a1_8 a1_9 a1_10 a1_11 = some c := start_rule (n := 400) (lv := lv) (noSum_ok _) (by kernel_rfl) h
end ref18_Note
/-! garrison/hist.of -/
namespace hist_of
def lv : Live := [((3, 1048576), [0, 1, 5], [])]
abbrev H3 (x0 : List (List DV)) (x1 : Int) (x5 : Int) (c : (Int × Unit)) : Prop := HeadAns cfg 26 sh lv (bd cfg 26 [1, 0, 1, 1, 0, 0, 0]) 1048576 [.inBlock 0, .code (bd cfg 26 [1, 0, 1, 1, 1]), .inScope (bd cfg 26 [1, 0])]
  [(AV.d (DV.lst 15 x0)), (AV.d (DV.v (Value.int IntKind.i64 x1))), (AV.d (DV.v (Value.int IntKind.i64 x5)))] [] 1048576 c
theorem start (a0 : List (List DV)) (a1 : Int) (c : (Int × Unit)) (h :
    H3 a0 a1 (((a0).length : Nat) : Int) c) : R a0 a1 = some c := start_rule (n := 400) (lv := lv) (noSum_ok _) (by kernel_rfl) h
theorem H3_step (x0 : List (List DV)) (x1 : Int) (x5 : Int) (c : (Int × Unit)) (h :
    cond (decide ((x5 > (0 : Int)))) (
      needs ((0 : Int) ≤ (IntKind.i64.wrap (x5 - (1 : Int)))) (
      optAll ((x0)[(Int.toNat (IntKind.i64.wrap (x5 - (1 : Int))))]?) fun (r0 : List DV) =>
      optAll ((dInt IntKind.i64 r0 0)) fun (z1 : Int) =>
      cond ((z1 == x1)) (
        cond (((((x0).length : Nat) : Int) == (0 : Int))) (
          c = ((-1 : Int), ())) (
          c = ((IntKind.i64.wrap (x5 - (1 : Int))), ()))) (
        cond (((IntKind.i64.wrap (x5 - (1 : Int))) == (0 : Int))) (
          c = ((-1 : Int), ())) (
          H3 x0 x1 (IntKind.i64.wrap (x5 - (1 : Int))) c)))) (
      cond (((((x0).length : Nat) : Int) == (0 : Int))) (
        c = ((-1 : Int), ())) (
        c = (x5, ())))) : H3 x0 x1 x5 c := head_rule (n := 400) (noSum_ok _) (by kernel_rfl) h
end hist_of
/-! garrison/garrisonref18.last -/
namespace ref18_last
def lv : Live := [((3, 1048576), [0, 1, 7], [])]
abbrev H3 (x0 : List (List DV)) (x1 : Int) (x7 : Int) (c : (Int × Unit)) : Prop := HeadAns cfg 27 sh lv (bd cfg 27 [1, 0, 1, 0, 0]) 1048576 [.inBlock 0, .code (bd cfg 27 [1, 1])]
  [(AV.d (DV.lst 15 x0)), (AV.d (DV.v (Value.int IntKind.i64 x1))), (AV.d (DV.v (Value.int IntKind.i64 x7)))] [] 1048576 c
theorem start (a0 : List (List DV)) (a1 : Int) (a2 : Int) (c : (Int × Unit)) (h :
    H3 a0 a1 (IntKind.i64.wrap (a2 - (1 : Int))) c) : R a0 a1 a2 = some c := start_rule (n := 400) (lv := lv) (noSum_ok _) (by kernel_rfl) h
theorem H3_step (x0 : List (List DV)) (x1 : Int) (x7 : Int) (c : (Int × Unit)) (h :
    cond (decide ((x7 ≥ (0 : Int)))) (
      needs ((0 : Int) ≤ x7) (
      optAll ((x0)[(Int.toNat x7)]?) fun (r0 : List DV) =>
      optAll ((dInt IntKind.i64 r0 0)) fun (z1 : Int) =>
      cond ((z1 == x1)) (
        c = (x7, ())) (
        H3 x0 x1 (IntKind.i64.wrap (x7 - (1 : Int))) c))) (
      c = ((-1 : Int), ()))) : H3 x0 x1 x7 c := head_rule (n := 400) (noSum_ok _) (by kernel_rfl) h
end ref18_last
/-! garrison/garrisonref17.Dones -/
namespace ref17_Dones
def lv : Live := [((5, 1048576), [0, 1, 5], [])]
abbrev H5 (x0 : List (List DV)) (x1 : List (List DV)) (x5 : Int) (c : (Bool × Unit)) : Prop := HeadAns cfg 28 sh lv (bd cfg 28 [1, 1, 0, 1, 0, 0]) 1048576 [.inBlock 0, .code (bd cfg 28 [1, 1, 1])]
  [(AV.d (DV.lst 5 x0)), (AV.d (DV.lst 5 x1)), (AV.d (DV.v (Value.int IntKind.i64 x5)))] [] 1048576 c
theorem start (a0 : List (List DV)) (a1 : List (List DV)) (c : (Bool × Unit)) (h :
    cond (((((a0).length : Nat) : Int) != (((a1).length : Nat) : Int))) (
      c = (false, ())) (
      H5 a0 a1 (0 : Int) c)) : R a0 a1 = some c := start_rule (n := 400) (lv := lv) (noSum_ok _) (by kernel_rfl) h
theorem H5_step (x0 : List (List DV)) (x1 : List (List DV)) (x5 : Int) (c : (Bool × Unit)) (h :
    cond (decide ((x5 < (((x0).length : Nat) : Int)))) (
      needs ((0 : Int) ≤ x5) (
      optAll ((x0)[(Int.toNat x5)]?) fun (r0 : List DV) =>
      optAll ((dInt IntKind.i64 r0 0)) fun (z1 : Int) =>
      optAll ((dInt IntKind.i64 r0 1)) fun (z2 : Int) =>
      optAll ((dInt IntKind.i64 r0 2)) fun (z3 : Int) =>
      optAll ((dInt IntKind.i64 r0 3)) fun (z4 : Int) =>
      optAll ((dBool r0 4)) fun (z5 : Bool) =>
      needs ((0 : Int) ≤ x5) (
      optAll ((x1)[(Int.toNat x5)]?) fun (r6 : List DV) =>
      optAll ((dInt IntKind.i64 r6 0)) fun (z7 : Int) =>
      optAll ((dInt IntKind.i64 r6 1)) fun (z8 : Int) =>
      optAll ((dInt IntKind.i64 r6 2)) fun (z9 : Int) =>
      optAll ((dInt IntKind.i64 r6 3)) fun (z10 : Int) =>
      optAll ((dBool r6 4)) fun (z11 : Bool) =>
      cond ((!((z1 == z7) && ((z2 == z8) && ((z3 == z9) && ((z4 == z10) && ((z5 == z11) && true))))))) (
        c = (false, ())) (
        H5 x0 x1 (IntKind.i64.wrap (x5 + (1 : Int))) c)))) (
      c = (true, ()))) : H5 x0 x1 x5 c := head_rule (n := 400) (noSum_ok _) (by kernel_rfl) h
end ref17_Dones
/-! garrison/hist.isSpan -/
namespace hist_isSpan
def lv : Live := []
theorem start (a0_0 : Int) (a0_1 : Int) (a0_2 : Int) (a0_3 : Int) (a0_4 : Int) (a0_5 : Int) (a0_6 : Int) (a0_7 : Int) (a0_8 : Int) (a0_9 : Int) (a0_10 : Int) (a0_11 : Int) (a0_12 : Int) (a0_13 : Int) (a0_14 : Bool) (a1 : List (List DV)) (c : (Bool × Unit)) (h :
    optAll (hist_isCore.R a0_0) fun (c0 : (Bool × Unit)) =>
    cond ((!(c0).1)) (
      c = (false, ())) (
      cond (decide ((a0_9 < (1 : Int)))) (
        c = (false, ())) (
        cond ((a0_10 != (0 : Int))) (
          cond (decide ((a0_10 < a0_9))) (
            c = (false, ())) (
            cond ((a0_10 == (0 : Int))) (
              cond ((!((a0_11 == (0 : Int)) && ((a0_12 == (0 : Int)) && ((a0_13 == (0 : Int)) && ((a0_14 == false) && true)))))) (
                c = (false, ())) (
                cond (decide (((((a1).length : Nat) : Int) > (0 : Int)))) (
                  needs ((0 : Int) ≤ (IntKind.i64.wrap ((((a1).length : Nat) : Int) - (1 : Int)))) (
                  optAll ((a1)[(Int.toNat (IntKind.i64.wrap ((((a1).length : Nat) : Int) - (1 : Int))))]?) fun (r1 : List DV) =>
                  optAll ((dInt IntKind.i64 r1 9)) fun (z2 : Int) =>
                  cond (decide ((a0_9 < z2))) (
                    c = (false, ())) (
                    optAll (hist_of.R a1 a0_0) fun (c3 : (Int × Unit)) =>
                    cond (decide (((c3).1 < (0 : Int)))) (
                      c = (true, ())) (
                      needs ((0 : Int) ≤ (c3).1) (
                      optAll ((a1)[(Int.toNat (c3).1)]?) fun (r4 : List DV) =>
                      optAll ((dInt IntKind.i64 r4 0)) fun (z5 : Int) =>
                      optAll ((dInt IntKind.i64 r4 1)) fun (z6 : Int) =>
                      optAll ((dInt IntKind.u64 r4 2)) fun (z7 : Int) =>
                      optAll ((dInt IntKind.u64 r4 3)) fun (z8 : Int) =>
                      optAll ((dInt IntKind.i64 r4 4)) fun (z9 : Int) =>
                      optAll ((dInt IntKind.i64 r4 5)) fun (z10 : Int) =>
                      optAll ((dInt IntKind.i64 r4 6)) fun (z11 : Int) =>
                      optAll ((dInt IntKind.i64 r4 7)) fun (z12 : Int) =>
                      optAll ((dInt IntKind.i64 r4 8)) fun (z13 : Int) =>
                      optAll ((dInt IntKind.i64 r4 9)) fun (z14 : Int) =>
                      optAll ((dInt IntKind.i64 r4 10)) fun (z15 : Int) =>
                      optAll ((dInt IntKind.i64 r4 11)) fun (z16 : Int) =>
                      optAll ((dInt IntKind.i64 r4 12)) fun (z17 : Int) =>
                      optAll ((dInt IntKind.i64 r4 13)) fun (z18 : Int) =>
                      optAll ((dBool r4 14)) fun (z19 : Bool) =>
                      optAll (hist_Ahead.R z5 z6 z7 z8 z9 z10 z11 z12 z13 z14 z15 z16 z17 z18 z19 a0_0 a0_1 a0_2 a0_3 a0_4 a0_5 a0_6 a0_7 a0_8 a0_9 a0_10 a0_11 a0_12 a0_13 a0_14) fun (c20 : (Bool × Unit)) =>
                      c = ((c20).1, ())))))) (
                  optAll (hist_of.R a1 a0_0) fun (c21 : (Int × Unit)) =>
                  cond (decide (((c21).1 < (0 : Int)))) (
                    c = (true, ())) (
                    needs ((0 : Int) ≤ (c21).1) (
                    optAll ((a1)[(Int.toNat (c21).1)]?) fun (r22 : List DV) =>
                    optAll ((dInt IntKind.i64 r22 0)) fun (z23 : Int) =>
                    optAll ((dInt IntKind.i64 r22 1)) fun (z24 : Int) =>
                    optAll ((dInt IntKind.u64 r22 2)) fun (z25 : Int) =>
                    optAll ((dInt IntKind.u64 r22 3)) fun (z26 : Int) =>
                    optAll ((dInt IntKind.i64 r22 4)) fun (z27 : Int) =>
                    optAll ((dInt IntKind.i64 r22 5)) fun (z28 : Int) =>
                    optAll ((dInt IntKind.i64 r22 6)) fun (z29 : Int) =>
                    optAll ((dInt IntKind.i64 r22 7)) fun (z30 : Int) =>
                    optAll ((dInt IntKind.i64 r22 8)) fun (z31 : Int) =>
                    optAll ((dInt IntKind.i64 r22 9)) fun (z32 : Int) =>
                    optAll ((dInt IntKind.i64 r22 10)) fun (z33 : Int) =>
                    optAll ((dInt IntKind.i64 r22 11)) fun (z34 : Int) =>
                    optAll ((dInt IntKind.i64 r22 12)) fun (z35 : Int) =>
                    optAll ((dInt IntKind.i64 r22 13)) fun (z36 : Int) =>
                    optAll ((dBool r22 14)) fun (z37 : Bool) =>
                    optAll (hist_Ahead.R z23 z24 z25 z26 z27 z28 z29 z30 z31 z32 z33 z34 z35 z36 z37 a0_0 a0_1 a0_2 a0_3 a0_4 a0_5 a0_6 a0_7 a0_8 a0_9 a0_10 a0_11 a0_12 a0_13 a0_14) fun (c38 : (Bool × Unit)) =>
                    c = ((c38).1, ())))))) (
              cond (decide (((((a1).length : Nat) : Int) > (0 : Int)))) (
                needs ((0 : Int) ≤ (IntKind.i64.wrap ((((a1).length : Nat) : Int) - (1 : Int)))) (
                optAll ((a1)[(Int.toNat (IntKind.i64.wrap ((((a1).length : Nat) : Int) - (1 : Int))))]?) fun (r39 : List DV) =>
                optAll ((dInt IntKind.i64 r39 9)) fun (z40 : Int) =>
                cond (decide ((a0_9 < z40))) (
                  c = (false, ())) (
                  optAll (hist_of.R a1 a0_0) fun (c41 : (Int × Unit)) =>
                  cond (decide (((c41).1 < (0 : Int)))) (
                    c = (true, ())) (
                    needs ((0 : Int) ≤ (c41).1) (
                    optAll ((a1)[(Int.toNat (c41).1)]?) fun (r42 : List DV) =>
                    optAll ((dInt IntKind.i64 r42 0)) fun (z43 : Int) =>
                    optAll ((dInt IntKind.i64 r42 1)) fun (z44 : Int) =>
                    optAll ((dInt IntKind.u64 r42 2)) fun (z45 : Int) =>
                    optAll ((dInt IntKind.u64 r42 3)) fun (z46 : Int) =>
                    optAll ((dInt IntKind.i64 r42 4)) fun (z47 : Int) =>
                    optAll ((dInt IntKind.i64 r42 5)) fun (z48 : Int) =>
                    optAll ((dInt IntKind.i64 r42 6)) fun (z49 : Int) =>
                    optAll ((dInt IntKind.i64 r42 7)) fun (z50 : Int) =>
                    optAll ((dInt IntKind.i64 r42 8)) fun (z51 : Int) =>
                    optAll ((dInt IntKind.i64 r42 9)) fun (z52 : Int) =>
                    optAll ((dInt IntKind.i64 r42 10)) fun (z53 : Int) =>
                    optAll ((dInt IntKind.i64 r42 11)) fun (z54 : Int) =>
                    optAll ((dInt IntKind.i64 r42 12)) fun (z55 : Int) =>
                    optAll ((dInt IntKind.i64 r42 13)) fun (z56 : Int) =>
                    optAll ((dBool r42 14)) fun (z57 : Bool) =>
                    optAll (hist_Ahead.R z43 z44 z45 z46 z47 z48 z49 z50 z51 z52 z53 z54 z55 z56 z57 a0_0 a0_1 a0_2 a0_3 a0_4 a0_5 a0_6 a0_7 a0_8 a0_9 a0_10 a0_11 a0_12 a0_13 a0_14) fun (c58 : (Bool × Unit)) =>
                    c = ((c58).1, ())))))) (
                optAll (hist_of.R a1 a0_0) fun (c59 : (Int × Unit)) =>
                cond (decide (((c59).1 < (0 : Int)))) (
                  c = (true, ())) (
                  needs ((0 : Int) ≤ (c59).1) (
                  optAll ((a1)[(Int.toNat (c59).1)]?) fun (r60 : List DV) =>
                  optAll ((dInt IntKind.i64 r60 0)) fun (z61 : Int) =>
                  optAll ((dInt IntKind.i64 r60 1)) fun (z62 : Int) =>
                  optAll ((dInt IntKind.u64 r60 2)) fun (z63 : Int) =>
                  optAll ((dInt IntKind.u64 r60 3)) fun (z64 : Int) =>
                  optAll ((dInt IntKind.i64 r60 4)) fun (z65 : Int) =>
                  optAll ((dInt IntKind.i64 r60 5)) fun (z66 : Int) =>
                  optAll ((dInt IntKind.i64 r60 6)) fun (z67 : Int) =>
                  optAll ((dInt IntKind.i64 r60 7)) fun (z68 : Int) =>
                  optAll ((dInt IntKind.i64 r60 8)) fun (z69 : Int) =>
                  optAll ((dInt IntKind.i64 r60 9)) fun (z70 : Int) =>
                  optAll ((dInt IntKind.i64 r60 10)) fun (z71 : Int) =>
                  optAll ((dInt IntKind.i64 r60 11)) fun (z72 : Int) =>
                  optAll ((dInt IntKind.i64 r60 12)) fun (z73 : Int) =>
                  optAll ((dInt IntKind.i64 r60 13)) fun (z74 : Int) =>
                  optAll ((dBool r60 14)) fun (z75 : Bool) =>
                  optAll (hist_Ahead.R z61 z62 z63 z64 z65 z66 z67 z68 z69 z70 z71 z72 z73 z74 z75 a0_0 a0_1 a0_2 a0_3 a0_4 a0_5 a0_6 a0_7 a0_8 a0_9 a0_10 a0_11 a0_12 a0_13 a0_14) fun (c76 : (Bool × Unit)) =>
                  c = ((c76).1, ()))))))) (
          cond ((a0_10 == (0 : Int))) (
            cond ((!((a0_11 == (0 : Int)) && ((a0_12 == (0 : Int)) && ((a0_13 == (0 : Int)) && ((a0_14 == false) && true)))))) (
              c = (false, ())) (
              cond (decide (((((a1).length : Nat) : Int) > (0 : Int)))) (
                needs ((0 : Int) ≤ (IntKind.i64.wrap ((((a1).length : Nat) : Int) - (1 : Int)))) (
                optAll ((a1)[(Int.toNat (IntKind.i64.wrap ((((a1).length : Nat) : Int) - (1 : Int))))]?) fun (r77 : List DV) =>
                optAll ((dInt IntKind.i64 r77 9)) fun (z78 : Int) =>
                cond (decide ((a0_9 < z78))) (
                  c = (false, ())) (
                  optAll (hist_of.R a1 a0_0) fun (c79 : (Int × Unit)) =>
                  cond (decide (((c79).1 < (0 : Int)))) (
                    c = (true, ())) (
                    needs ((0 : Int) ≤ (c79).1) (
                    optAll ((a1)[(Int.toNat (c79).1)]?) fun (r80 : List DV) =>
                    optAll ((dInt IntKind.i64 r80 0)) fun (z81 : Int) =>
                    optAll ((dInt IntKind.i64 r80 1)) fun (z82 : Int) =>
                    optAll ((dInt IntKind.u64 r80 2)) fun (z83 : Int) =>
                    optAll ((dInt IntKind.u64 r80 3)) fun (z84 : Int) =>
                    optAll ((dInt IntKind.i64 r80 4)) fun (z85 : Int) =>
                    optAll ((dInt IntKind.i64 r80 5)) fun (z86 : Int) =>
                    optAll ((dInt IntKind.i64 r80 6)) fun (z87 : Int) =>
                    optAll ((dInt IntKind.i64 r80 7)) fun (z88 : Int) =>
                    optAll ((dInt IntKind.i64 r80 8)) fun (z89 : Int) =>
                    optAll ((dInt IntKind.i64 r80 9)) fun (z90 : Int) =>
                    optAll ((dInt IntKind.i64 r80 10)) fun (z91 : Int) =>
                    optAll ((dInt IntKind.i64 r80 11)) fun (z92 : Int) =>
                    optAll ((dInt IntKind.i64 r80 12)) fun (z93 : Int) =>
                    optAll ((dInt IntKind.i64 r80 13)) fun (z94 : Int) =>
                    optAll ((dBool r80 14)) fun (z95 : Bool) =>
                    optAll (hist_Ahead.R z81 z82 z83 z84 z85 z86 z87 z88 z89 z90 z91 z92 z93 z94 z95 a0_0 a0_1 a0_2 a0_3 a0_4 a0_5 a0_6 a0_7 a0_8 a0_9 a0_10 a0_11 a0_12 a0_13 a0_14) fun (c96 : (Bool × Unit)) =>
                    c = ((c96).1, ())))))) (
                optAll (hist_of.R a1 a0_0) fun (c97 : (Int × Unit)) =>
                cond (decide (((c97).1 < (0 : Int)))) (
                  c = (true, ())) (
                  needs ((0 : Int) ≤ (c97).1) (
                  optAll ((a1)[(Int.toNat (c97).1)]?) fun (r98 : List DV) =>
                  optAll ((dInt IntKind.i64 r98 0)) fun (z99 : Int) =>
                  optAll ((dInt IntKind.i64 r98 1)) fun (z100 : Int) =>
                  optAll ((dInt IntKind.u64 r98 2)) fun (z101 : Int) =>
                  optAll ((dInt IntKind.u64 r98 3)) fun (z102 : Int) =>
                  optAll ((dInt IntKind.i64 r98 4)) fun (z103 : Int) =>
                  optAll ((dInt IntKind.i64 r98 5)) fun (z104 : Int) =>
                  optAll ((dInt IntKind.i64 r98 6)) fun (z105 : Int) =>
                  optAll ((dInt IntKind.i64 r98 7)) fun (z106 : Int) =>
                  optAll ((dInt IntKind.i64 r98 8)) fun (z107 : Int) =>
                  optAll ((dInt IntKind.i64 r98 9)) fun (z108 : Int) =>
                  optAll ((dInt IntKind.i64 r98 10)) fun (z109 : Int) =>
                  optAll ((dInt IntKind.i64 r98 11)) fun (z110 : Int) =>
                  optAll ((dInt IntKind.i64 r98 12)) fun (z111 : Int) =>
                  optAll ((dInt IntKind.i64 r98 13)) fun (z112 : Int) =>
                  optAll ((dBool r98 14)) fun (z113 : Bool) =>
                  optAll (hist_Ahead.R z99 z100 z101 z102 z103 z104 z105 z106 z107 z108 z109 z110 z111 z112 z113 a0_0 a0_1 a0_2 a0_3 a0_4 a0_5 a0_6 a0_7 a0_8 a0_9 a0_10 a0_11 a0_12 a0_13 a0_14) fun (c114 : (Bool × Unit)) =>
                  c = ((c114).1, ())))))) (
            cond (decide (((((a1).length : Nat) : Int) > (0 : Int)))) (
              needs ((0 : Int) ≤ (IntKind.i64.wrap ((((a1).length : Nat) : Int) - (1 : Int)))) (
              optAll ((a1)[(Int.toNat (IntKind.i64.wrap ((((a1).length : Nat) : Int) - (1 : Int))))]?) fun (r115 : List DV) =>
              optAll ((dInt IntKind.i64 r115 9)) fun (z116 : Int) =>
              cond (decide ((a0_9 < z116))) (
                c = (false, ())) (
                optAll (hist_of.R a1 a0_0) fun (c117 : (Int × Unit)) =>
                cond (decide (((c117).1 < (0 : Int)))) (
                  c = (true, ())) (
                  needs ((0 : Int) ≤ (c117).1) (
                  optAll ((a1)[(Int.toNat (c117).1)]?) fun (r118 : List DV) =>
                  optAll ((dInt IntKind.i64 r118 0)) fun (z119 : Int) =>
                  optAll ((dInt IntKind.i64 r118 1)) fun (z120 : Int) =>
                  optAll ((dInt IntKind.u64 r118 2)) fun (z121 : Int) =>
                  optAll ((dInt IntKind.u64 r118 3)) fun (z122 : Int) =>
                  optAll ((dInt IntKind.i64 r118 4)) fun (z123 : Int) =>
                  optAll ((dInt IntKind.i64 r118 5)) fun (z124 : Int) =>
                  optAll ((dInt IntKind.i64 r118 6)) fun (z125 : Int) =>
                  optAll ((dInt IntKind.i64 r118 7)) fun (z126 : Int) =>
                  optAll ((dInt IntKind.i64 r118 8)) fun (z127 : Int) =>
                  optAll ((dInt IntKind.i64 r118 9)) fun (z128 : Int) =>
                  optAll ((dInt IntKind.i64 r118 10)) fun (z129 : Int) =>
                  optAll ((dInt IntKind.i64 r118 11)) fun (z130 : Int) =>
                  optAll ((dInt IntKind.i64 r118 12)) fun (z131 : Int) =>
                  optAll ((dInt IntKind.i64 r118 13)) fun (z132 : Int) =>
                  optAll ((dBool r118 14)) fun (z133 : Bool) =>
                  optAll (hist_Ahead.R z119 z120 z121 z122 z123 z124 z125 z126 z127 z128 z129 z130 z131 z132 z133 a0_0 a0_1 a0_2 a0_3 a0_4 a0_5 a0_6 a0_7 a0_8 a0_9 a0_10 a0_11 a0_12 a0_13 a0_14) fun (c134 : (Bool × Unit)) =>
                  c = ((c134).1, ())))))) (
              optAll (hist_of.R a1 a0_0) fun (c135 : (Int × Unit)) =>
              cond (decide (((c135).1 < (0 : Int)))) (
                c = (true, ())) (
                needs ((0 : Int) ≤ (c135).1) (
                optAll ((a1)[(Int.toNat (c135).1)]?) fun (r136 : List DV) =>
                optAll ((dInt IntKind.i64 r136 0)) fun (z137 : Int) =>
                optAll ((dInt IntKind.i64 r136 1)) fun (z138 : Int) =>
                optAll ((dInt IntKind.u64 r136 2)) fun (z139 : Int) =>
                optAll ((dInt IntKind.u64 r136 3)) fun (z140 : Int) =>
                optAll ((dInt IntKind.i64 r136 4)) fun (z141 : Int) =>
                optAll ((dInt IntKind.i64 r136 5)) fun (z142 : Int) =>
                optAll ((dInt IntKind.i64 r136 6)) fun (z143 : Int) =>
                optAll ((dInt IntKind.i64 r136 7)) fun (z144 : Int) =>
                optAll ((dInt IntKind.i64 r136 8)) fun (z145 : Int) =>
                optAll ((dInt IntKind.i64 r136 9)) fun (z146 : Int) =>
                optAll ((dInt IntKind.i64 r136 10)) fun (z147 : Int) =>
                optAll ((dInt IntKind.i64 r136 11)) fun (z148 : Int) =>
                optAll ((dInt IntKind.i64 r136 12)) fun (z149 : Int) =>
                optAll ((dInt IntKind.i64 r136 13)) fun (z150 : Int) =>
                optAll ((dBool r136 14)) fun (z151 : Bool) =>
                optAll (hist_Ahead.R z137 z138 z139 z140 z141 z142 z143 z144 z145 z146 z147 z148 z149 z150 z151 a0_0 a0_1 a0_2 a0_3 a0_4 a0_5 a0_6 a0_7 a0_8 a0_9 a0_10 a0_11 a0_12 a0_13 a0_14) fun (c152 : (Bool × Unit)) =>
                c = ((c152).1, ()))))))))) : R a0_0 a0_1 a0_2 a0_3 a0_4 a0_5 a0_6 a0_7 a0_8 a0_9 a0_10 a0_11 a0_12 a0_13 a0_14 a1 = some c := start_rule (n := 400) (lv := lv) (noSum_ok _) (by kernel_rfl) h
end hist_isSpan
/-! garrison/hist.isEvent -/
namespace hist_isEvent
def lv : Live := []
theorem start (a0_0 : Int) (a0_1 : Int) (a0_2 : Int) (a0_3 : Int) (a0_4 : Int) (a0_5 : Int) (a0_6 : Int) (a0_7 : Int) (a0_8 : Int) (a0_9 : Int) (a0_10 : Int) (a0_11 : List (List DV)) (a1 : List (List DV)) (c : (Bool × Unit)) (h :
    cond (decide ((a0_0 < (0 : Int)))) (
      c = (false, ())) (
      cond (decide ((a0_0 > (3 : Int)))) (
        c = (false, ())) (
        optAll (hist_isCore.R a0_1) fun (c0 : (Bool × Unit)) =>
        cond ((!(c0).1)) (
          c = (false, ())) (
          cond (decide ((a0_10 < (1 : Int)))) (
            c = (false, ())) (
            cond (((((a1).length : Nat) : Int) == (0 : Int))) (
              c = (true, ())) (
              needs ((0 : Int) ≤ (IntKind.i64.wrap ((((a1).length : Nat) : Int) - (1 : Int)))) (
              optAll ((a1)[(Int.toNat (IntKind.i64.wrap ((((a1).length : Nat) : Int) - (1 : Int))))]?) fun (r1 : List DV) =>
              optAll ((dInt IntKind.i64 r1 10)) fun (z2 : Int) =>
              c = (decide ((a0_10 > z2)), ())))))))) : R a0_0 a0_1 a0_2 a0_3 a0_4 a0_5 a0_6 a0_7 a0_8 a0_9 a0_10 a0_11 a1 = some c := start_rule (n := 400) (lv := lv) (noSum_ok _) (by kernel_rfl) h
end hist_isEvent
/-! garrison/garrisonref18.core -/
namespace ref18_core
def lv : Live := []
theorem start (a0 : Int) (c : (Bool × Unit)) (h :
    cond (decide ((a0 ≥ (0 : Int)))) (
      c = (decide ((a0 < (64 : Int))), ())) (
      c = (false, ()))) : R a0 = some c := start_rule (n := 400) (lv := lv) (noSum_ok _) (by kernel_rfl) h
end ref18_core
/-! slices.Equal[[]garrison/api.Span,garrison/api.Span] -/
namespace slices_Equal_api_Span_api_Span
def lv : Live := [((5, 1048576), [0, 1, 12, 13], [])]
abbrev H5 (x0 : List (List DV)) (x1 : List (List DV)) (x12 : Int) (x13 : Int) (c : (Bool × Unit)) : Prop := HeadAns cfg 34 sh lv (bd cfg 34 [1, 1, 0, 1, 0, 0]) 1048576 [.inBlock 0, .code (bd cfg 34 [1, 1, 1])]
  [(AV.d (DV.lst 15 x0)), (AV.d (DV.lst 15 x1)), (AV.d (DV.v (Value.int IntKind.i64 x12))), (AV.d (DV.v (Value.int IntKind.i64 x13)))] [] 1048576 c
theorem start (a0 : List (List DV)) (a1 : List (List DV)) (c : (Bool × Unit)) (h :
    cond (((((a0).length : Nat) : Int) != (((a1).length : Nat) : Int))) (
      c = (false, ())) (
      H5 a0 a1 (((a0).length : Nat) : Int) (0 : Int) c)) : R a0 a1 = some c := start_rule (n := 400) (lv := lv) (noSum_ok _) (by kernel_rfl) h
theorem H5_step (x0 : List (List DV)) (x1 : List (List DV)) (x12 : Int) (x13 : Int) (c : (Bool × Unit)) (h :
    cond (decide ((x13 < x12))) (
      needs ((0 : Int) ≤ x13) (
      optAll ((x0)[(Int.toNat x13)]?) fun (r0 : List DV) =>
      optAll ((dInt IntKind.i64 r0 0)) fun (z1 : Int) =>
      optAll ((dInt IntKind.i64 r0 1)) fun (z2 : Int) =>
      optAll ((dInt IntKind.u64 r0 2)) fun (z3 : Int) =>
      optAll ((dInt IntKind.u64 r0 3)) fun (z4 : Int) =>
      optAll ((dInt IntKind.i64 r0 4)) fun (z5 : Int) =>
      optAll ((dInt IntKind.i64 r0 5)) fun (z6 : Int) =>
      optAll ((dInt IntKind.i64 r0 6)) fun (z7 : Int) =>
      optAll ((dInt IntKind.i64 r0 7)) fun (z8 : Int) =>
      optAll ((dInt IntKind.i64 r0 8)) fun (z9 : Int) =>
      optAll ((dInt IntKind.i64 r0 9)) fun (z10 : Int) =>
      optAll ((dInt IntKind.i64 r0 10)) fun (z11 : Int) =>
      optAll ((dInt IntKind.i64 r0 11)) fun (z12 : Int) =>
      optAll ((dInt IntKind.i64 r0 12)) fun (z13 : Int) =>
      optAll ((dInt IntKind.i64 r0 13)) fun (z14 : Int) =>
      optAll ((dBool r0 14)) fun (z15 : Bool) =>
      needs ((0 : Int) ≤ x13) (
      optAll ((x1)[(Int.toNat x13)]?) fun (r16 : List DV) =>
      optAll ((dInt IntKind.i64 r16 0)) fun (z17 : Int) =>
      optAll ((dInt IntKind.i64 r16 1)) fun (z18 : Int) =>
      optAll ((dInt IntKind.u64 r16 2)) fun (z19 : Int) =>
      optAll ((dInt IntKind.u64 r16 3)) fun (z20 : Int) =>
      optAll ((dInt IntKind.i64 r16 4)) fun (z21 : Int) =>
      optAll ((dInt IntKind.i64 r16 5)) fun (z22 : Int) =>
      optAll ((dInt IntKind.i64 r16 6)) fun (z23 : Int) =>
      optAll ((dInt IntKind.i64 r16 7)) fun (z24 : Int) =>
      optAll ((dInt IntKind.i64 r16 8)) fun (z25 : Int) =>
      optAll ((dInt IntKind.i64 r16 9)) fun (z26 : Int) =>
      optAll ((dInt IntKind.i64 r16 10)) fun (z27 : Int) =>
      optAll ((dInt IntKind.i64 r16 11)) fun (z28 : Int) =>
      optAll ((dInt IntKind.i64 r16 12)) fun (z29 : Int) =>
      optAll ((dInt IntKind.i64 r16 13)) fun (z30 : Int) =>
      optAll ((dBool r16 14)) fun (z31 : Bool) =>
      cond ((!((z1 == z17) && ((z2 == z18) && ((z3 == z19) && ((z4 == z20) && ((z5 == z21) && ((z6 == z22) && ((z7 == z23) && ((z8 == z24) && ((z9 == z25) && ((z10 == z26) && ((z11 == z27) && ((z12 == z28) && ((z13 == z29) && ((z14 == z30) && ((z15 == z31) && true))))))))))))))))) (
        c = (false, ())) (
        H5 x0 x1 x12 (IntKind.i64.wrap (x13 + (1 : Int))) c)))) (
      c = (true, ()))) : H5 x0 x1 x12 x13 c := head_rule (n := 400) (noSum_ok _) (by kernel_rfl) h
end slices_Equal_api_Span_api_Span
/-! slices.EqualFunc[[]garrison/api.Event,[]garrison/api.Event,garrison/api.Event,garrison/api.Event] -/
namespace slices_EqualFunc_api_Event_api_Event_api_Event_api_Event__hist_Same_1
def lv : Live := [((5, 1048576), [1, 2, 15, 16, 17], [])]
abbrev H5 (x1 : List (List DV)) (x15 : List (List DV)) (x16 : Int) (x17 : Int) (c : (Bool × Unit)) : Prop := HeadAns cfg 35 sh lv (bd cfg 35 [1, 1, 0, 1, 0, 0]) 1048576 [.inBlock 0, .code (bd cfg 35 [1, 1, 1])]
  [(AV.d (DV.lst 12 x1)), (AV.d (DV.fn 32 [])), (AV.d (DV.lst 12 x15)), (AV.d (DV.v (Value.int IntKind.i64 x16))), (AV.d (DV.v (Value.int IntKind.i64 x17)))] [] 1048576 c
theorem start (a0 : List (List DV)) (a1 : List (List DV)) (c : (Bool × Unit)) (h :
    cond (((((a0).length : Nat) : Int) != (((a1).length : Nat) : Int))) (
      c = (false, ())) (
      H5 a1 a0 (((a0).length : Nat) : Int) (0 : Int) c)) : R a0 a1 = some c := start_rule (n := 400) (lv := lv) (noSum_ok _) (by kernel_rfl) h
theorem H5_step (x1 : List (List DV)) (x15 : List (List DV)) (x16 : Int) (x17 : Int) (c : (Bool × Unit)) (h :
    cond (decide ((x17 < x16))) (
      needs ((0 : Int) ≤ x17) (
      optAll ((x15)[(Int.toNat x17)]?) fun (r0 : List DV) =>
      optAll ((dInt IntKind.i64 r0 0)) fun (z1 : Int) =>
      optAll ((dInt IntKind.i64 r0 1)) fun (z2 : Int) =>
      optAll ((dInt IntKind.i64 r0 2)) fun (z3 : Int) =>
      optAll ((dInt IntKind.u64 r0 3)) fun (z4 : Int) =>
      optAll ((dInt IntKind.u64 r0 4)) fun (z5 : Int) =>
      optAll ((dInt IntKind.i64 r0 5)) fun (z6 : Int) =>
      optAll ((dInt IntKind.i64 r0 6)) fun (z7 : Int) =>
      optAll ((dInt IntKind.i64 r0 7)) fun (z8 : Int) =>
      optAll ((dInt IntKind.i64 r0 8)) fun (z9 : Int) =>
      optAll ((dInt IntKind.i64 r0 9)) fun (z10 : Int) =>
      optAll ((dInt IntKind.i64 r0 10)) fun (z11 : Int) =>
      optAll ((dLst 5 r0 11)) fun (l12 : List (List DV)) =>
      needs ((0 : Int) ≤ x17) (
      optAll ((x1)[(Int.toNat x17)]?) fun (r13 : List DV) =>
      optAll ((dInt IntKind.i64 r13 0)) fun (z14 : Int) =>
      optAll ((dInt IntKind.i64 r13 1)) fun (z15 : Int) =>
      optAll ((dInt IntKind.i64 r13 2)) fun (z16 : Int) =>
      optAll ((dInt IntKind.u64 r13 3)) fun (z17 : Int) =>
      optAll ((dInt IntKind.u64 r13 4)) fun (z18 : Int) =>
      optAll ((dInt IntKind.i64 r13 5)) fun (z19 : Int) =>
      optAll ((dInt IntKind.i64 r13 6)) fun (z20 : Int) =>
      optAll ((dInt IntKind.i64 r13 7)) fun (z21 : Int) =>
      optAll ((dInt IntKind.i64 r13 8)) fun (z22 : Int) =>
      optAll ((dInt IntKind.i64 r13 9)) fun (z23 : Int) =>
      optAll ((dInt IntKind.i64 r13 10)) fun (z24 : Int) =>
      optAll ((dLst 5 r13 11)) fun (l25 : List (List DV)) =>
      optAll (hist_Same_1.R z1 z2 z3 z4 z5 z6 z7 z8 z9 z10 z11 l12 z14 z15 z16 z17 z18 z19 z20 z21 z22 z23 z24 l25) fun (c26 : (Bool × Unit)) =>
      cond ((!(c26).1)) (
        c = (false, ())) (
        H5 x1 x15 x16 (IntKind.i64.wrap (x17 + (1 : Int))) c)))) (
      c = (true, ()))) : H5 x1 x15 x16 x17 c := head_rule (n := 400) (noSum_ok _) (by kernel_rfl) h
end slices_EqualFunc_api_Event_api_Event_api_Event_api_Event__hist_Same_1
/-! garrison/hist.isCore -/
namespace hist_isCore
def lv : Live := []
theorem start (a0 : Int) (c : (Bool × Unit)) (h :
    cond (decide ((a0 ≥ (0 : Int)))) (
      c = (decide ((a0 < (64 : Int))), ())) (
      c = (false, ()))) : R a0 = some c := start_rule (n := 400) (lv := lv) (noSum_ok _) (by kernel_rfl) h
end hist_isCore
/-! garrison/hist.Same$1 -/
namespace hist_Same_1
def lv : Live := []
theorem start (a0_0 : Int) (a0_1 : Int) (a0_2 : Int) (a0_3 : Int) (a0_4 : Int) (a0_5 : Int) (a0_6 : Int) (a0_7 : Int) (a0_8 : Int) (a0_9 : Int) (a0_10 : Int) (a0_11 : List (List DV)) (a1_0 : Int) (a1_1 : Int) (a1_2 : Int) (a1_3 : Int) (a1_4 : Int) (a1_5 : Int) (a1_6 : Int) (a1_7 : Int) (a1_8 : Int) (a1_9 : Int) (a1_10 : Int) (a1_11 : List (List DV)) (c : (Bool × Unit)) (h :
    cond ((a0_0 == a1_0)) (
      cond ((a0_1 == a1_1)) (
        cond (((a0_2 == a1_2) && ((a0_3 == a1_3) && ((a0_4 == a1_4) && ((a0_5 == a1_5) && ((a0_6 == a1_6) && ((a0_7 == a1_7) && ((a0_8 == a1_8) && ((a0_9 == a1_9) && true))))))))) (
          cond ((a0_10 == a1_10)) (
            optAll (slices_Equal_api_Done_api_Done.R a0_11 a1_11) fun (c0 : (Bool × Unit)) =>
            c = ((c0).1, ())) (
            c = (false, ()))) (
          c = (false, ()))) (
        c = (false, ()))) (
      c = (false, ()))) : R a0_0 a0_1 a0_2 a0_3 a0_4 a0_5 a0_6 a0_7 a0_8 a0_9 a0_10 a0_11 a1_0 a1_1 a1_2 a1_3 a1_4 a1_5 a1_6 a1_7 a1_8 a1_9 a1_10 a1_11 = some c := start_rule (n := 400) (lv := lv) (noSum_ok _) (by kernel_rfl) h
end hist_Same_1
/-! slices.Equal[[]garrison/api.Done,garrison/api.Done] -/
namespace slices_Equal_api_Done_api_Done
def lv : Live := [((5, 1048576), [0, 1, 12, 13], [])]
abbrev H5 (x0 : List (List DV)) (x1 : List (List DV)) (x12 : Int) (x13 : Int) (c : (Bool × Unit)) : Prop := HeadAns cfg 33 sh lv (bd cfg 33 [1, 1, 0, 1, 0, 0]) 1048576 [.inBlock 0, .code (bd cfg 33 [1, 1, 1])]
  [(AV.d (DV.lst 5 x0)), (AV.d (DV.lst 5 x1)), (AV.d (DV.v (Value.int IntKind.i64 x12))), (AV.d (DV.v (Value.int IntKind.i64 x13)))] [] 1048576 c
theorem start (a0 : List (List DV)) (a1 : List (List DV)) (c : (Bool × Unit)) (h :
    cond (((((a0).length : Nat) : Int) != (((a1).length : Nat) : Int))) (
      c = (false, ())) (
      H5 a0 a1 (((a0).length : Nat) : Int) (0 : Int) c)) : R a0 a1 = some c := start_rule (n := 400) (lv := lv) (noSum_ok _) (by kernel_rfl) h
theorem H5_step (x0 : List (List DV)) (x1 : List (List DV)) (x12 : Int) (x13 : Int) (c : (Bool × Unit)) (h :
    cond (decide ((x13 < x12))) (
      needs ((0 : Int) ≤ x13) (
      optAll ((x0)[(Int.toNat x13)]?) fun (r0 : List DV) =>
      optAll ((dInt IntKind.i64 r0 0)) fun (z1 : Int) =>
      optAll ((dInt IntKind.i64 r0 1)) fun (z2 : Int) =>
      optAll ((dInt IntKind.i64 r0 2)) fun (z3 : Int) =>
      optAll ((dInt IntKind.i64 r0 3)) fun (z4 : Int) =>
      optAll ((dBool r0 4)) fun (z5 : Bool) =>
      needs ((0 : Int) ≤ x13) (
      optAll ((x1)[(Int.toNat x13)]?) fun (r6 : List DV) =>
      optAll ((dInt IntKind.i64 r6 0)) fun (z7 : Int) =>
      optAll ((dInt IntKind.i64 r6 1)) fun (z8 : Int) =>
      optAll ((dInt IntKind.i64 r6 2)) fun (z9 : Int) =>
      optAll ((dInt IntKind.i64 r6 3)) fun (z10 : Int) =>
      optAll ((dBool r6 4)) fun (z11 : Bool) =>
      cond ((!((z1 == z7) && ((z2 == z8) && ((z3 == z9) && ((z4 == z10) && ((z5 == z11) && true))))))) (
        c = (false, ())) (
        H5 x0 x1 x12 (IntKind.i64.wrap (x13 + (1 : Int))) c)))) (
      c = (true, ()))) : H5 x0 x1 x12 x13 c := head_rule (n := 400) (noSum_ok _) (by kernel_rfl) h
end slices_Equal_api_Done_api_Done
end Go.AI
