/-
  Own work: printed by Tell, a program of this work: what each function's body does over symbols.
-/
import Derived.Test.YtlkaolahadcjbaaCfg
import Derived.KernelRfl
namespace Go.AI
open Go
set_option maxRecDepth 100000
set_option linter.unusedVariables false
set_option linter.unusedSimpArgs false
/-! garrison/garrisonlaw16.PortRuns -/
namespace law16_PortRuns
abbrev sh : List Sh := [.one (.bool)]
noncomputable abbrev R (a0 : List (List DV)) : Option (Bool × Unit) := retω cfg sh 3 [(AV.d (DV.lst 10 a0))]
end law16_PortRuns
/-! garrison/garrisonlaw16.PortFirst -/
namespace law16_PortFirst
abbrev sh : List Sh := [.one (.bool)]
noncomputable abbrev R (a0 : List (List DV)) : Option (Bool × Unit) := retω cfg sh 4 [(AV.d (DV.lst 10 a0))]
end law16_PortFirst
/-! garrison/garrisonlaw16.PortBits -/
namespace law16_PortBits
abbrev sh : List Sh := [.one (.bool)]
noncomputable abbrev R (a0 : List (List DV)) : Option (Bool × Unit) := retω cfg sh 5 [(AV.d (DV.lst 10 a0))]
end law16_PortBits
/-! garrison/garrisonlaw16.PortDrops -/
namespace law16_PortDrops
abbrev sh : List Sh := [.one (.bool)]
noncomputable abbrev R (a0_0 : Int) (a0_1 : Int) (a0_2 : List (List DV)) (a1 : Int) : Option (Bool × Unit) := retω cfg sh 6 [(AV.agg [(AV.d (DV.v (Value.int IntKind.i64 a0_0))), (AV.d (DV.v (Value.int IntKind.i64 a0_1))), (AV.d (DV.lst 8 a0_2))]), (AV.d (DV.v (Value.int IntKind.i64 a1)))]
end law16_PortDrops
/-! garrison/garrisonlaw16.PortTurns -/
namespace law16_PortTurns
abbrev sh : List Sh := [.one (.bool)]
noncomputable abbrev R (a0_0 : Int) (a0_1 : Int) (a0_2 : Int) (a0_3 : Bool) (a0_4 : Int) (a0_5 : Int) (a0_6 : Int) (a0_7 : Bool) (a1_0 : Int) (a1_1 : Int) (a1_2 : Int) (a1_3 : Bool) (a1_4 : Int) (a1_5 : Int) (a1_6 : Int) (a1_7 : Bool) (a2 : Bool) : Option (Bool × Unit) := retω cfg sh 7 [(AV.agg [(AV.d (DV.v (Value.int IntKind.i64 a0_0))), (AV.d (DV.v (Value.int IntKind.i64 a0_1))), (AV.d (DV.v (Value.int IntKind.i64 a0_2))), (AV.d (DV.v (Value.bool a0_3))), (AV.d (DV.v (Value.int IntKind.i64 a0_4))), (AV.d (DV.v (Value.int IntKind.i64 a0_5))), (AV.d (DV.v (Value.int IntKind.i64 a0_6))), (AV.d (DV.v (Value.bool a0_7)))]), (AV.agg [(AV.d (DV.v (Value.int IntKind.i64 a1_0))), (AV.d (DV.v (Value.int IntKind.i64 a1_1))), (AV.d (DV.v (Value.int IntKind.i64 a1_2))), (AV.d (DV.v (Value.bool a1_3))), (AV.d (DV.v (Value.int IntKind.i64 a1_4))), (AV.d (DV.v (Value.int IntKind.i64 a1_5))), (AV.d (DV.v (Value.int IntKind.i64 a1_6))), (AV.d (DV.v (Value.bool a1_7)))]), (AV.d (DV.v (Value.bool a2)))]
end law16_PortTurns
/-! garrison/garrisonlaw16.PortMany -/
namespace law16_PortMany
abbrev sh : List Sh := [.one (.bool)]
noncomputable abbrev R (a0 : Int) (a1 : Bool) : Option (Bool × Unit) := retω cfg sh 8 [(AV.d (DV.v (Value.int IntKind.i64 a0))), (AV.d (DV.v (Value.bool a1)))]
end law16_PortMany
/-! garrison/garrisonlaw16.live -/
namespace law16_live
abbrev sh : List Sh := [.one (.bool)]
noncomputable abbrev R : Option (Bool × Unit) := retω cfg sh 9 []
end law16_live
/-! garrison/garrisonlaw16.does -/
namespace law16_does
abbrev sh : List Sh := [.agg [.int .i64, .int .i64, .lst 8], .agg [.int .i64, .int .i64, .int .i64, .bool, .int .i64, .int .i64, .int .i64, .bool], .one (.bool), .one (.int .i64), .one (.int .i64)]
noncomputable abbrev R (a0_0 : Int) (a0_1 : Int) (a0_2 : List (List DV)) (a1_0 : Int) (a1_1 : Int) (a1_2 : Int) (a1_3 : Int) (a1_4 : Bool) (a1_5 : Int) (a1_6 : Int) (a1_7 : Int) (a1_8 : Bool) (a1_9 : Int) : Option ((Int × (Int × (List (List DV) × Unit))) × ((Int × (Int × (Int × (Bool × (Int × (Int × (Int × (Bool × Unit)))))))) × (Bool × (Int × (Int × Unit))))) := retω cfg sh 10 [(AV.agg [(AV.d (DV.v (Value.int IntKind.i64 a0_0))), (AV.d (DV.v (Value.int IntKind.i64 a0_1))), (AV.d (DV.lst 8 a0_2))]), (AV.agg [(AV.d (DV.v (Value.int IntKind.i64 a1_0))), (AV.d (DV.v (Value.int IntKind.i64 a1_1))), (AV.d (DV.v (Value.int IntKind.i64 a1_2))), (AV.d (DV.v (Value.int IntKind.i64 a1_3))), (AV.d (DV.v (Value.bool a1_4))), (AV.d (DV.v (Value.int IntKind.i64 a1_5))), (AV.d (DV.v (Value.int IntKind.i64 a1_6))), (AV.d (DV.v (Value.int IntKind.i64 a1_7))), (AV.d (DV.v (Value.bool a1_8))), (AV.d (DV.v (Value.int IntKind.i64 a1_9)))])]
end law16_does
/-! garrison/garrisonlaw16.model -/
namespace law16_model
abbrev sh : List Sh := [.agg [.int .i64, .int .i64, .lst 8], .agg [.int .i64, .int .i64, .int .i64, .bool, .int .i64, .int .i64, .int .i64, .bool], .one (.bool), .one (.int .i64), .one (.int .i64)]
noncomputable abbrev R (a0_0 : Int) (a0_1 : Int) (a0_2 : List (List DV)) (a1_0 : Int) (a1_1 : Int) (a1_2 : Int) (a1_3 : Int) (a1_4 : Bool) (a1_5 : Int) (a1_6 : Int) (a1_7 : Int) (a1_8 : Bool) (a1_9 : Int) : Option ((Int × (Int × (List (List DV) × Unit))) × ((Int × (Int × (Int × (Bool × (Int × (Int × (Int × (Bool × Unit)))))))) × (Bool × (Int × (Int × Unit))))) := retω cfg sh 11 [(AV.agg [(AV.d (DV.v (Value.int IntKind.i64 a0_0))), (AV.d (DV.v (Value.int IntKind.i64 a0_1))), (AV.d (DV.lst 8 a0_2))]), (AV.agg [(AV.d (DV.v (Value.int IntKind.i64 a1_0))), (AV.d (DV.v (Value.int IntKind.i64 a1_1))), (AV.d (DV.v (Value.int IntKind.i64 a1_2))), (AV.d (DV.v (Value.int IntKind.i64 a1_3))), (AV.d (DV.v (Value.bool a1_4))), (AV.d (DV.v (Value.int IntKind.i64 a1_5))), (AV.d (DV.v (Value.int IntKind.i64 a1_6))), (AV.d (DV.v (Value.int IntKind.i64 a1_7))), (AV.d (DV.v (Value.bool a1_8))), (AV.d (DV.v (Value.int IntKind.i64 a1_9)))])]
end law16_model
/-! garrison/garrisonref16.Same -/
namespace ref16_Same
abbrev sh : List Sh := [.one (.bool)]
noncomputable abbrev R (a0_0 : Int) (a0_1 : Int) (a0_2 : List (List DV)) (a1_0 : Int) (a1_1 : Int) (a1_2 : List (List DV)) : Option (Bool × Unit) := retω cfg sh 12 [(AV.agg [(AV.d (DV.v (Value.int IntKind.i64 a0_0))), (AV.d (DV.v (Value.int IntKind.i64 a0_1))), (AV.d (DV.lst 8 a0_2))]), (AV.agg [(AV.d (DV.v (Value.int IntKind.i64 a1_0))), (AV.d (DV.v (Value.int IntKind.i64 a1_1))), (AV.d (DV.lst 8 a1_2))])]
end ref16_Same
/-! garrison/port.Check -/
namespace port_Check
abbrev sh : List Sh := [.one (.int .i64)]
noncomputable abbrev R (a0_0 : Int) (a0_1 : Int) (a0_2 : List (List DV)) : Option (Int × Unit) := retω cfg sh 14 [(AV.agg [(AV.d (DV.v (Value.int IntKind.i64 a0_0))), (AV.d (DV.v (Value.int IntKind.i64 a0_1))), (AV.d (DV.lst 8 a0_2))])]
end port_Check
/-! garrison/garrisonlaw16.num -/
namespace law16_num
abbrev sh : List Sh := [.one (.int .i64)]
noncomputable abbrev R (a0 : Int) : Option (Int × Unit) := retω cfg sh 13 [(AV.d (DV.v (Value.int IntKind.i64 a0)))]
end law16_num
/-! garrison/port.Signal -/
namespace port_Signal
abbrev sh : List Sh := [.agg [.int .i64, .int .i64, .lst 8], .agg [.int .i64, .int .i64, .int .i64, .bool, .int .i64, .int .i64, .int .i64, .bool], .one (.bool)]
noncomputable abbrev R (a0_0 : Int) (a0_1 : Int) (a0_2 : List (List DV)) (a1 : Int) : Option ((Int × (Int × (List (List DV) × Unit))) × ((Int × (Int × (Int × (Bool × (Int × (Int × (Int × (Bool × Unit)))))))) × (Bool × Unit))) := retω cfg sh 15 [(AV.agg [(AV.d (DV.v (Value.int IntKind.i64 a0_0))), (AV.d (DV.v (Value.int IntKind.i64 a0_1))), (AV.d (DV.lst 8 a0_2))]), (AV.d (DV.v (Value.int IntKind.i64 a1)))]
end port_Signal
/-! garrison/port.Wait -/
namespace port_Wait
abbrev sh : List Sh := [.agg [.int .i64, .int .i64, .lst 8], .one (.int .i64), .one (.int .i64)]
noncomputable abbrev R (a0_0 : Int) (a0_1 : Int) (a0_2 : List (List DV)) (a1 : Int) : Option ((Int × (Int × (List (List DV) × Unit))) × (Int × (Int × Unit))) := retω cfg sh 16 [(AV.agg [(AV.d (DV.v (Value.int IntKind.i64 a0_0))), (AV.d (DV.v (Value.int IntKind.i64 a0_1))), (AV.d (DV.lst 8 a0_2))]), (AV.d (DV.v (Value.int IntKind.i64 a1)))]
end port_Wait
/-! garrison/port.Drop -/
namespace port_Drop
abbrev sh : List Sh := [.agg [.int .i64, .int .i64, .lst 8], .one (.bool)]
noncomputable abbrev R (a0_0 : Int) (a0_1 : Int) (a0_2 : List (List DV)) (a1 : Int) : Option ((Int × (Int × (List (List DV) × Unit))) × (Bool × Unit)) := retω cfg sh 17 [(AV.agg [(AV.d (DV.v (Value.int IntKind.i64 a0_0))), (AV.d (DV.v (Value.int IntKind.i64 a0_1))), (AV.d (DV.lst 8 a0_2))]), (AV.d (DV.v (Value.int IntKind.i64 a1)))]
end port_Drop
/-! garrison/port.Send -/
namespace port_Send
abbrev sh : List Sh := [.agg [.int .i64, .int .i64, .lst 8], .agg [.int .i64, .int .i64, .int .i64, .bool, .int .i64, .int .i64, .int .i64, .bool], .one (.bool), .one (.int .i64)]
noncomputable abbrev R (a0_0 : Int) (a0_1 : Int) (a0_2 : List (List DV)) (a1_0 : Int) (a1_1 : Int) (a1_2 : Int) (a1_3 : Bool) (a1_4 : Int) (a1_5 : Int) (a1_6 : Int) (a1_7 : Bool) : Option ((Int × (Int × (List (List DV) × Unit))) × ((Int × (Int × (Int × (Bool × (Int × (Int × (Int × (Bool × Unit)))))))) × (Bool × (Int × Unit)))) := retω cfg sh 18 [(AV.agg [(AV.d (DV.v (Value.int IntKind.i64 a0_0))), (AV.d (DV.v (Value.int IntKind.i64 a0_1))), (AV.d (DV.lst 8 a0_2))]), (AV.agg [(AV.d (DV.v (Value.int IntKind.i64 a1_0))), (AV.d (DV.v (Value.int IntKind.i64 a1_1))), (AV.d (DV.v (Value.int IntKind.i64 a1_2))), (AV.d (DV.v (Value.bool a1_3))), (AV.d (DV.v (Value.int IntKind.i64 a1_4))), (AV.d (DV.v (Value.int IntKind.i64 a1_5))), (AV.d (DV.v (Value.int IntKind.i64 a1_6))), (AV.d (DV.v (Value.bool a1_7)))])]
end port_Send
/-! garrison/port.Recv -/
namespace port_Recv
abbrev sh : List Sh := [.agg [.int .i64, .int .i64, .lst 8], .agg [.int .i64, .int .i64, .int .i64, .bool, .int .i64, .int .i64, .int .i64, .bool], .one (.bool), .one (.int .i64)]
noncomputable abbrev R (a0_0 : Int) (a0_1 : Int) (a0_2 : List (List DV)) (a1_0 : Int) (a1_1 : Int) (a1_2 : Int) (a1_3 : Bool) (a1_4 : Int) (a1_5 : Int) (a1_6 : Int) (a1_7 : Bool) : Option ((Int × (Int × (List (List DV) × Unit))) × ((Int × (Int × (Int × (Bool × (Int × (Int × (Int × (Bool × Unit)))))))) × (Bool × (Int × Unit)))) := retω cfg sh 19 [(AV.agg [(AV.d (DV.v (Value.int IntKind.i64 a0_0))), (AV.d (DV.v (Value.int IntKind.i64 a0_1))), (AV.d (DV.lst 8 a0_2))]), (AV.agg [(AV.d (DV.v (Value.int IntKind.i64 a1_0))), (AV.d (DV.v (Value.int IntKind.i64 a1_1))), (AV.d (DV.v (Value.int IntKind.i64 a1_2))), (AV.d (DV.v (Value.bool a1_3))), (AV.d (DV.v (Value.int IntKind.i64 a1_4))), (AV.d (DV.v (Value.int IntKind.i64 a1_5))), (AV.d (DV.v (Value.int IntKind.i64 a1_6))), (AV.d (DV.v (Value.bool a1_7)))])]
end port_Recv
/-! garrison/port.Same -/
namespace port_Same
abbrev sh : List Sh := [.one (.bool)]
noncomputable abbrev R (a0_0 : Int) (a0_1 : Int) (a0_2 : List (List DV)) (a1_0 : Int) (a1_1 : Int) (a1_2 : List (List DV)) : Option (Bool × Unit) := retω cfg sh 20 [(AV.agg [(AV.d (DV.v (Value.int IntKind.i64 a0_0))), (AV.d (DV.v (Value.int IntKind.i64 a0_1))), (AV.d (DV.lst 8 a0_2))]), (AV.agg [(AV.d (DV.v (Value.int IntKind.i64 a1_0))), (AV.d (DV.v (Value.int IntKind.i64 a1_1))), (AV.d (DV.lst 8 a1_2))])]
end port_Same
/-! garrison/garrisonlaw16.who -/
namespace law16_who
abbrev sh : List Sh := [.agg [.int .i64, .int .i64, .int .i64, .bool, .int .i64, .int .i64, .int .i64, .bool]]
noncomputable abbrev R (a0 : Int) : Option ((Int × (Int × (Int × (Bool × (Int × (Int × (Int × (Bool × Unit)))))))) × Unit) := retω cfg sh 21 [(AV.d (DV.v (Value.int IntKind.i64 a0)))]
end law16_who
/-! garrison/garrisonref16.Send -/
namespace ref16_Send
abbrev sh : List Sh := [.agg [.int .i64, .int .i64, .lst 8], .agg [.int .i64, .int .i64, .int .i64, .bool, .int .i64, .int .i64, .int .i64, .bool], .one (.bool), .one (.int .i64)]
noncomputable abbrev R (a0_0 : Int) (a0_1 : Int) (a0_2 : List (List DV)) (a1_0 : Int) (a1_1 : Int) (a1_2 : Int) (a1_3 : Bool) (a1_4 : Int) (a1_5 : Int) (a1_6 : Int) (a1_7 : Bool) : Option ((Int × (Int × (List (List DV) × Unit))) × ((Int × (Int × (Int × (Bool × (Int × (Int × (Int × (Bool × Unit)))))))) × (Bool × (Int × Unit)))) := retω cfg sh 22 [(AV.agg [(AV.d (DV.v (Value.int IntKind.i64 a0_0))), (AV.d (DV.v (Value.int IntKind.i64 a0_1))), (AV.d (DV.lst 8 a0_2))]), (AV.agg [(AV.d (DV.v (Value.int IntKind.i64 a1_0))), (AV.d (DV.v (Value.int IntKind.i64 a1_1))), (AV.d (DV.v (Value.int IntKind.i64 a1_2))), (AV.d (DV.v (Value.bool a1_3))), (AV.d (DV.v (Value.int IntKind.i64 a1_4))), (AV.d (DV.v (Value.int IntKind.i64 a1_5))), (AV.d (DV.v (Value.int IntKind.i64 a1_6))), (AV.d (DV.v (Value.bool a1_7)))])]
end ref16_Send
/-! garrison/garrisonref16.Recv -/
namespace ref16_Recv
abbrev sh : List Sh := [.agg [.int .i64, .int .i64, .lst 8], .agg [.int .i64, .int .i64, .int .i64, .bool, .int .i64, .int .i64, .int .i64, .bool], .one (.bool), .one (.int .i64)]
noncomputable abbrev R (a0_0 : Int) (a0_1 : Int) (a0_2 : List (List DV)) (a1_0 : Int) (a1_1 : Int) (a1_2 : Int) (a1_3 : Bool) (a1_4 : Int) (a1_5 : Int) (a1_6 : Int) (a1_7 : Bool) : Option ((Int × (Int × (List (List DV) × Unit))) × ((Int × (Int × (Int × (Bool × (Int × (Int × (Int × (Bool × Unit)))))))) × (Bool × (Int × Unit)))) := retω cfg sh 23 [(AV.agg [(AV.d (DV.v (Value.int IntKind.i64 a0_0))), (AV.d (DV.v (Value.int IntKind.i64 a0_1))), (AV.d (DV.lst 8 a0_2))]), (AV.agg [(AV.d (DV.v (Value.int IntKind.i64 a1_0))), (AV.d (DV.v (Value.int IntKind.i64 a1_1))), (AV.d (DV.v (Value.int IntKind.i64 a1_2))), (AV.d (DV.v (Value.bool a1_3))), (AV.d (DV.v (Value.int IntKind.i64 a1_4))), (AV.d (DV.v (Value.int IntKind.i64 a1_5))), (AV.d (DV.v (Value.int IntKind.i64 a1_6))), (AV.d (DV.v (Value.bool a1_7)))])]
end ref16_Recv
/-! garrison/garrisonref16.Signal -/
namespace ref16_Signal
abbrev sh : List Sh := [.agg [.int .i64, .int .i64, .lst 8], .agg [.int .i64, .int .i64, .int .i64, .bool, .int .i64, .int .i64, .int .i64, .bool], .one (.bool)]
noncomputable abbrev R (a0_0 : Int) (a0_1 : Int) (a0_2 : List (List DV)) (a1 : Int) : Option ((Int × (Int × (List (List DV) × Unit))) × ((Int × (Int × (Int × (Bool × (Int × (Int × (Int × (Bool × Unit)))))))) × (Bool × Unit))) := retω cfg sh 24 [(AV.agg [(AV.d (DV.v (Value.int IntKind.i64 a0_0))), (AV.d (DV.v (Value.int IntKind.i64 a0_1))), (AV.d (DV.lst 8 a0_2))]), (AV.d (DV.v (Value.int IntKind.i64 a1)))]
end ref16_Signal
/-! garrison/garrisonref16.Wait -/
namespace ref16_Wait
abbrev sh : List Sh := [.agg [.int .i64, .int .i64, .lst 8], .one (.int .i64), .one (.int .i64)]
noncomputable abbrev R (a0_0 : Int) (a0_1 : Int) (a0_2 : List (List DV)) (a1 : Int) : Option ((Int × (Int × (List (List DV) × Unit))) × (Int × (Int × Unit))) := retω cfg sh 25 [(AV.agg [(AV.d (DV.v (Value.int IntKind.i64 a0_0))), (AV.d (DV.v (Value.int IntKind.i64 a0_1))), (AV.d (DV.lst 8 a0_2))]), (AV.d (DV.v (Value.int IntKind.i64 a1)))]
end ref16_Wait
/-! garrison/garrisonref16.Drop -/
namespace ref16_Drop
abbrev sh : List Sh := [.agg [.int .i64, .int .i64, .lst 8], .one (.bool)]
noncomputable abbrev R (a0_0 : Int) (a0_1 : Int) (a0_2 : List (List DV)) (a1 : Int) : Option ((Int × (Int × (List (List DV) × Unit))) × (Bool × Unit)) := retω cfg sh 26 [(AV.agg [(AV.d (DV.v (Value.int IntKind.i64 a0_0))), (AV.d (DV.v (Value.int IntKind.i64 a0_1))), (AV.d (DV.lst 8 a0_2))]), (AV.d (DV.v (Value.int IntKind.i64 a1)))]
end ref16_Drop
/-! slices.ContainsFunc[[]garrison/api.Waiter,garrison/api.Waiter] -/
namespace slices_ContainsFunc_api_Waiter_api_Waiter__port_Check_1
abbrev sh : List Sh := [.one (.bool)]
noncomputable abbrev R (a0 : List (List DV)) (b0 : List (List DV)) : Option (Bool × Unit) := ownT cfg sh 29 27 (DV.lst 8 a0) (VBlk.drow 64 0 b0)
end slices_ContainsFunc_api_Waiter_api_Waiter__port_Check_1
/-! garrison/port.leave -/
namespace port_leave
abbrev sh : List Sh := [.agg [.int .i64, .int .i64, .lst 8], .agg [.int .i64, .int .i64, .int .i64, .bool, .int .i64, .int .i64, .int .i64, .bool]]
noncomputable abbrev R (a0_0 : Int) (a0_1 : Int) (a0_2 : List (List DV)) (a1 : Int) : Option ((Int × (Int × (List (List DV) × Unit))) × ((Int × (Int × (Int × (Bool × (Int × (Int × (Int × (Bool × Unit)))))))) × Unit)) := retω cfg sh 30 [(AV.agg [(AV.d (DV.v (Value.int IntKind.i64 a0_0))), (AV.d (DV.v (Value.int IntKind.i64 a0_1))), (AV.d (DV.lst 8 a0_2))]), (AV.d (DV.v (Value.int IntKind.i64 a1)))]
end port_leave
/-! garrison/port.begin -/
namespace port_begin
abbrev sh : List Sh := [.one (.int .i64)]
noncomputable abbrev R (a0_0 : Int) (a0_1 : Int) (a0_2 : List (List DV)) (a1 : Int) : Option (Int × Unit) := retω cfg sh 31 [(AV.agg [(AV.d (DV.v (Value.int IntKind.i64 a0_0))), (AV.d (DV.v (Value.int IntKind.i64 a0_1))), (AV.d (DV.lst 8 a0_2))]), (AV.d (DV.v (Value.int IntKind.i64 a1)))]
end port_begin
/-! garrison/port.join -/
namespace port_join
abbrev sh : List Sh := [.agg [.int .i64, .int .i64, .lst 8]]
noncomputable abbrev R (a0_0 : Int) (a0_1 : Int) (a0_2 : List (List DV)) (a1 : Int) (a2_0 : Int) (a2_1 : Int) (a2_2 : Int) (a2_3 : Bool) (a2_4 : Int) (a2_5 : Int) (a2_6 : Int) (a2_7 : Bool) : Option ((Int × (Int × (List (List DV) × Unit))) × Unit) := retω cfg sh 32 [(AV.agg [(AV.d (DV.v (Value.int IntKind.i64 a0_0))), (AV.d (DV.v (Value.int IntKind.i64 a0_1))), (AV.d (DV.lst 8 a0_2))]), (AV.d (DV.v (Value.int IntKind.i64 a1))), (AV.agg [(AV.d (DV.v (Value.int IntKind.i64 a2_0))), (AV.d (DV.v (Value.int IntKind.i64 a2_1))), (AV.d (DV.v (Value.int IntKind.i64 a2_2))), (AV.d (DV.v (Value.bool a2_3))), (AV.d (DV.v (Value.int IntKind.i64 a2_4))), (AV.d (DV.v (Value.int IntKind.i64 a2_5))), (AV.d (DV.v (Value.int IntKind.i64 a2_6))), (AV.d (DV.v (Value.bool a2_7)))])]
end port_join
/-! garrison/port.at -/
namespace port_at
abbrev sh : List Sh := [.one (.int .i64)]
noncomputable abbrev R (a0_0 : Int) (a0_1 : Int) (a0_2 : List (List DV)) (a1 : Int) : Option (Int × Unit) := retω cfg sh 33 [(AV.agg [(AV.d (DV.v (Value.int IntKind.i64 a0_0))), (AV.d (DV.v (Value.int IntKind.i64 a0_1))), (AV.d (DV.lst 8 a0_2))]), (AV.d (DV.v (Value.int IntKind.i64 a1)))]
end port_at
/-! garrison/port.meet -/
namespace port_meet
abbrev sh : List Sh := [.agg [.int .i64, .int .i64, .lst 8], .agg [.int .i64, .int .i64, .int .i64, .bool, .int .i64, .int .i64, .int .i64, .bool], .one (.bool), .one (.int .i64)]
noncomputable abbrev R (a0_0 : Int) (a0_1 : Int) (a0_2 : List (List DV)) (a1_0 : Int) (a1_1 : Int) (a1_2 : Int) (a1_3 : Bool) (a1_4 : Int) (a1_5 : Int) (a1_6 : Int) (a1_7 : Bool) (a2 : Int) (a3 : Int) : Option ((Int × (Int × (List (List DV) × Unit))) × ((Int × (Int × (Int × (Bool × (Int × (Int × (Int × (Bool × Unit)))))))) × (Bool × (Int × Unit)))) := retω cfg sh 34 [(AV.agg [(AV.d (DV.v (Value.int IntKind.i64 a0_0))), (AV.d (DV.v (Value.int IntKind.i64 a0_1))), (AV.d (DV.lst 8 a0_2))]), (AV.agg [(AV.d (DV.v (Value.int IntKind.i64 a1_0))), (AV.d (DV.v (Value.int IntKind.i64 a1_1))), (AV.d (DV.v (Value.int IntKind.i64 a1_2))), (AV.d (DV.v (Value.bool a1_3))), (AV.d (DV.v (Value.int IntKind.i64 a1_4))), (AV.d (DV.v (Value.int IntKind.i64 a1_5))), (AV.d (DV.v (Value.int IntKind.i64 a1_6))), (AV.d (DV.v (Value.bool a1_7)))]), (AV.d (DV.v (Value.int IntKind.i64 a2))), (AV.d (DV.v (Value.int IntKind.i64 a3)))]
end port_meet
/-! slices.Equal[[]garrison/api.Waiter,garrison/api.Waiter] -/
namespace slices_Equal_api_Waiter_api_Waiter
abbrev sh : List Sh := [.one (.bool)]
noncomputable abbrev R (a0 : List (List DV)) (a1 : List (List DV)) : Option (Bool × Unit) := retω cfg sh 35 [(AV.d (DV.lst 8 a0)), (AV.d (DV.lst 8 a1))]
end slices_Equal_api_Waiter_api_Waiter
/-! garrison/garrisonref16.meet -/
namespace ref16_meet
abbrev sh : List Sh := [.agg [.int .i64, .int .i64, .lst 8], .agg [.int .i64, .int .i64, .int .i64, .bool, .int .i64, .int .i64, .int .i64, .bool], .one (.bool), .one (.int .i64)]
noncomputable abbrev R (a0_0 : Int) (a0_1 : Int) (a0_2 : List (List DV)) (a1_0 : Int) (a1_1 : Int) (a1_2 : Int) (a1_3 : Bool) (a1_4 : Int) (a1_5 : Int) (a1_6 : Int) (a1_7 : Bool) (a2 : Int) : Option ((Int × (Int × (List (List DV) × Unit))) × ((Int × (Int × (Int × (Bool × (Int × (Int × (Int × (Bool × Unit)))))))) × (Bool × (Int × Unit)))) := retω cfg sh 36 [(AV.agg [(AV.d (DV.v (Value.int IntKind.i64 a0_0))), (AV.d (DV.v (Value.int IntKind.i64 a0_1))), (AV.d (DV.lst 8 a0_2))]), (AV.agg [(AV.d (DV.v (Value.int IntKind.i64 a1_0))), (AV.d (DV.v (Value.int IntKind.i64 a1_1))), (AV.d (DV.v (Value.int IntKind.i64 a1_2))), (AV.d (DV.v (Value.bool a1_3))), (AV.d (DV.v (Value.int IntKind.i64 a1_4))), (AV.d (DV.v (Value.int IntKind.i64 a1_5))), (AV.d (DV.v (Value.int IntKind.i64 a1_6))), (AV.d (DV.v (Value.bool a1_7)))]), (AV.d (DV.v (Value.int IntKind.i64 a2)))]
end ref16_meet
/-! garrison/garrisonref16.Is -/
namespace ref16_Is
abbrev sh : List Sh := [.one (.bool)]
noncomputable abbrev R (a0_0 : Int) (a0_1 : Int) (a0_2 : List (List DV)) : Option (Bool × Unit) := retω cfg sh 37 [(AV.agg [(AV.d (DV.v (Value.int IntKind.i64 a0_0))), (AV.d (DV.v (Value.int IntKind.i64 a0_1))), (AV.d (DV.lst 8 a0_2))])]
end ref16_Is
/-! garrison/garrisonref16.without -/
namespace ref16_without
abbrev sh : List Sh := [.agg [.int .i64, .int .i64, .lst 8]]
noncomputable abbrev R (a0_0 : Int) (a0_1 : Int) (a0_2 : List (List DV)) (a1 : Int) : Option ((Int × (Int × (List (List DV) × Unit))) × Unit) := retω cfg sh 38 [(AV.agg [(AV.d (DV.v (Value.int IntKind.i64 a0_0))), (AV.d (DV.v (Value.int IntKind.i64 a0_1))), (AV.d (DV.lst 8 a0_2))]), (AV.d (DV.v (Value.int IntKind.i64 a1)))]
end ref16_without
/-! garrison/garrisonref16.core -/
namespace ref16_core
abbrev sh : List Sh := [.one (.bool)]
noncomputable abbrev R (a0 : Int) : Option (Bool × Unit) := retω cfg sh 39 [(AV.d (DV.v (Value.int IntKind.i64 a0)))]
end ref16_core
/-! garrison/garrisonref16.find -/
namespace ref16_find
abbrev sh : List Sh := [.one (.int .i64)]
noncomputable abbrev R (a0_0 : Int) (a0_1 : Int) (a0_2 : List (List DV)) (a1 : Int) : Option (Int × Unit) := retω cfg sh 40 [(AV.agg [(AV.d (DV.v (Value.int IntKind.i64 a0_0))), (AV.d (DV.v (Value.int IntKind.i64 a0_1))), (AV.d (DV.lst 8 a0_2))]), (AV.d (DV.v (Value.int IntKind.i64 a1)))]
end ref16_find
/-! slices.IndexFunc[[]garrison/api.Waiter,garrison/api.Waiter] -/
namespace slices_IndexFunc_api_Waiter_api_Waiter__port_Check_1
abbrev sh : List Sh := [.one (.int .i64)]
noncomputable abbrev R (a0 : List (List DV)) (b0 : List (List DV)) : Option (Int × Unit) := ownT cfg sh 41 27 (DV.lst 8 a0) (VBlk.drow 64 0 b0)
end slices_IndexFunc_api_Waiter_api_Waiter__port_Check_1
/-! garrison/port.isCore -/
namespace port_isCore
abbrev sh : List Sh := [.one (.bool)]
noncomputable abbrev R (a0 : Int) : Option (Bool × Unit) := retω cfg sh 28 [(AV.d (DV.v (Value.int IntKind.i64 a0)))]
end port_isCore
/-! slices.IndexFunc[[]garrison/api.Waiter,garrison/api.Waiter] -/
namespace slices_IndexFunc_api_Waiter_api_Waiter__port_at_1
abbrev sh : List Sh := [.one (.int .i64)]
noncomputable abbrev R (a0 : List (List DV)) (b0 : Int) : Option (Int × Unit) := ownT cfg sh 41 44 (DV.lst 8 a0) (VBlk.cell 1 0 [(AV.d (DV.v (Value.int IntKind.i64 b0)))])
end slices_IndexFunc_api_Waiter_api_Waiter__port_at_1
/-! garrison/garrisonlaw16.PortRuns -/
namespace law16_PortRuns
def lv : Live := [((6, 1048576), [0, 3, 4, 5], [175, 191])]
abbrev H6 (x0 : List (List DV)) (x5 : Int) (b175 : Int) (b175_1 : Int) (b175_2 : List (List DV)) (b191 : Int) (b191_1 : Int) (b191_2 : List (List DV)) (c : (Bool × Unit)) : Prop := HeadAns cfg 3 sh lv (bd cfg 3 [1, 1, 1, 0, 1, 0, 0]) 1048576 [.inBlock 0, .code (bd cfg 3 [1, 1, 1, 1])]
  [(AV.d (DV.lst 10 x0)), (AV.ptr 175 0 0 0), (AV.ptr 191 0 0 0), (AV.d (DV.v (Value.int IntKind.i64 x5)))] [(Option.some (VBlk.cell 3 0 [(AV.d (DV.v (Value.int IntKind.i64 b175))), (AV.d (DV.v (Value.int IntKind.i64 b175_1))), (AV.d (DV.lst 8 b175_2))])), (Option.some (VBlk.cell 3 0 [(AV.d (DV.v (Value.int IntKind.i64 b191))), (AV.d (DV.v (Value.int IntKind.i64 b191_1))), (AV.d (DV.lst 8 b191_2))]))] 1048576 c
theorem start (a0 : List (List DV)) (c : (Bool × Unit)) (h :
    cond (decide (((((a0).length : Nat) : Int) > (100 : Int)))) (
      optAll (law16_live.R) fun (c0 : (Bool × Unit)) =>
      c = ((c0).1, ())) (
      H6 a0 (0 : Int) (0 : Int) (0 : Int) [] (0 : Int) (0 : Int) [] c)) : R a0 = some c := start_rule (n := 400) (lv := lv) (noSum_ok _) (by kernel_rfl) h
theorem H6_step (x0 : List (List DV)) (x5 : Int) (b175 : Int) (b175_1 : Int) (b175_2 : List (List DV)) (b191 : Int) (b191_1 : Int) (b191_2 : List (List DV)) (c : (Bool × Unit)) (h :
    cond (decide ((x5 < (((x0).length : Nat) : Int)))) (
      needs ((0 : Int) ≤ x5) (
      optAll ((x0)[(Int.toNat x5)]?) fun (r1 : List DV) =>
      optAll ((dInt IntKind.i64 r1 0)) fun (z2 : Int) =>
      optAll ((dInt IntKind.i64 r1 1)) fun (z3 : Int) =>
      optAll ((dInt IntKind.i64 r1 2)) fun (z4 : Int) =>
      optAll ((dInt IntKind.i64 r1 3)) fun (z5 : Int) =>
      optAll ((dBool r1 4)) fun (z6 : Bool) =>
      optAll ((dInt IntKind.i64 r1 5)) fun (z7 : Int) =>
      optAll ((dInt IntKind.i64 r1 6)) fun (z8 : Int) =>
      optAll ((dInt IntKind.i64 r1 7)) fun (z9 : Int) =>
      optAll ((dBool r1 8)) fun (z10 : Bool) =>
      optAll ((dInt IntKind.i64 r1 9)) fun (z11 : Int) =>
      optAll (law16_does.R b175 b175_1 b175_2 z2 z3 z4 z5 z6 z7 z8 z9 z10 z11) fun (c12 : ((Int × (Int × (List (List DV) × Unit))) × ((Int × (Int × (Int × (Bool × (Int × (Int × (Int × (Bool × Unit)))))))) × (Bool × (Int × (Int × Unit)))))) =>
      needs ((0 : Int) ≤ x5) (
      optAll ((x0)[(Int.toNat x5)]?) fun (r13 : List DV) =>
      optAll ((dInt IntKind.i64 r13 0)) fun (z14 : Int) =>
      optAll ((dInt IntKind.i64 r13 1)) fun (z15 : Int) =>
      optAll ((dInt IntKind.i64 r13 2)) fun (z16 : Int) =>
      optAll ((dInt IntKind.i64 r13 3)) fun (z17 : Int) =>
      optAll ((dBool r13 4)) fun (z18 : Bool) =>
      optAll ((dInt IntKind.i64 r13 5)) fun (z19 : Int) =>
      optAll ((dInt IntKind.i64 r13 6)) fun (z20 : Int) =>
      optAll ((dInt IntKind.i64 r13 7)) fun (z21 : Int) =>
      optAll ((dBool r13 8)) fun (z22 : Bool) =>
      optAll ((dInt IntKind.i64 r13 9)) fun (z23 : Int) =>
      optAll (law16_model.R b191 b191_1 b191_2 z14 z15 z16 z17 z18 z19 z20 z21 z22 z23) fun (c24 : ((Int × (Int × (List (List DV) × Unit))) × ((Int × (Int × (Int × (Bool × (Int × (Int × (Int × (Bool × Unit)))))))) × (Bool × (Int × (Int × Unit)))))) =>
      optAll (ref16_Same.R ((c12).1).1 (((c12).1).2).1 ((((c12).1).2).2).1 ((c24).1).1 (((c24).1).2).1 ((((c24).1).2).2).1) fun (c25 : (Bool × Unit)) =>
      cond ((!(c25).1)) (
        c = (false, ())) (
        cond ((!(((((c12).2).1).1 == (((c24).2).1).1) && ((((((c12).2).1).2).1 == ((((c24).2).1).2).1) && (((((((c12).2).1).2).2).1 == (((((c24).2).1).2).2).1) && ((((((((c12).2).1).2).2).2).1 == ((((((c24).2).1).2).2).2).1) && (((((((((c12).2).1).2).2).2).2).1 == (((((((c24).2).1).2).2).2).2).1) && ((((((((((c12).2).1).2).2).2).2).2).1 == ((((((((c24).2).1).2).2).2).2).2).1) && (((((((((((c12).2).1).2).2).2).2).2).2).1 == (((((((((c24).2).1).2).2).2).2).2).2).1) && ((((((((((((c12).2).1).2).2).2).2).2).2).2).1 == ((((((((((c24).2).1).2).2).2).2).2).2).2).1) && true)))))))))) (
          c = (false, ())) (
          cond ((!((((c12).2).2).1 == (((c24).2).2).1))) (
            c = (false, ())) (
            cond ((((((c12).2).2).2).1 != ((((c24).2).2).2).1)) (
              c = (false, ())) (
              cond (((((((c12).2).2).2).2).1 != (((((c24).2).2).2).2).1)) (
                c = (false, ())) (
                H6 x0 (IntKind.i64.wrap (x5 + (1 : Int))) ((c12).1).1 (((c12).1).2).1 ((((c12).1).2).2).1 ((c24).1).1 (((c24).1).2).1 ((((c24).1).2).2).1 c)))))))) (
      optAll (law16_live.R) fun (c26 : (Bool × Unit)) =>
      c = ((c26).1, ()))) : H6 x0 x5 b175 b175_1 b175_2 b191 b191_1 b191_2 c := head_rule (n := 400) (noSum_ok _) (by kernel_rfl) h
end law16_PortRuns
/-! garrison/garrisonlaw16.PortFirst -/
namespace law16_PortFirst
def lv : Live := [((8, 1048576), [0, 3, 4, 5, 6], [188, 4])]
abbrev H8 (x0 : List (List DV)) (b4 : List (List DV)) (x5 : Int) (x6 : Int) (b188 : Int) (b188_1 : Int) (b188_2 : List (List DV)) (c : (Bool × Unit)) : Prop := HeadAns cfg 4 sh lv (bd cfg 4 [1, 1, 1, 1, 1, 0, 1, 0, 0]) 1048576 [.inBlock 0, .code (bd cfg 4 [1, 1, 1, 1, 1, 1])]
  [(AV.d (DV.lst 10 x0)), (AV.ptr 188 0 0 0), (AV.ref 4 0 0 (List.length b4)), (AV.d (DV.v (Value.int IntKind.i64 x5))), (AV.d (DV.v (Value.int IntKind.i64 x6)))] [(Option.some (VBlk.cell 3 0 [(AV.d (DV.v (Value.int IntKind.i64 b188))), (AV.d (DV.v (Value.int IntKind.i64 b188_1))), (AV.d (DV.lst 8 b188_2))])), (Option.some (VBlk.drow 8 0 b4))] 1048576 c
theorem start (a0 : List (List DV)) (c : (Bool × Unit)) (h :
    cond (decide (((((a0).length : Nat) : Int) > (100 : Int)))) (
      optAll (law16_live.R) fun (c0 : (Bool × Unit)) =>
      c = ((c0).1, ())) (
      H8 a0 [] (0 : Int) (0 : Int) (0 : Int) (0 : Int) [] c)) : R a0 = some c := start_rule (n := 400) (lv := lv) (noSum_ok _) (by kernel_rfl) h
theorem H8_step (x0 : List (List DV)) (b4 : List (List DV)) (x5 : Int) (x6 : Int) (b188 : Int) (b188_1 : Int) (b188_2 : List (List DV)) (c : (Bool × Unit)) (h :
    cond (decide ((x6 < (((x0).length : Nat) : Int)))) (
      needs ((0 : Int) ≤ x6) (
      optAll ((x0)[(Int.toNat x6)]?) fun (r1 : List DV) =>
      optAll ((dInt IntKind.i64 r1 0)) fun (z2 : Int) =>
      optAll ((dInt IntKind.i64 r1 1)) fun (z3 : Int) =>
      optAll ((dInt IntKind.i64 r1 2)) fun (z4 : Int) =>
      optAll ((dInt IntKind.i64 r1 3)) fun (z5 : Int) =>
      optAll ((dBool r1 4)) fun (z6 : Bool) =>
      optAll ((dInt IntKind.i64 r1 5)) fun (z7 : Int) =>
      optAll ((dInt IntKind.i64 r1 6)) fun (z8 : Int) =>
      optAll ((dInt IntKind.i64 r1 7)) fun (z9 : Int) =>
      optAll ((dBool r1 8)) fun (z10 : Bool) =>
      optAll ((dInt IntKind.i64 r1 9)) fun (z11 : Int) =>
      cond ((z2 != (0 : Int))) (
        cond ((z2 != (1 : Int))) (
          H8 x0 b4 x5 (IntKind.i64.wrap (x6 + (1 : Int))) b188 b188_1 b188_2 c) (
          optAll (law16_does.R b188 b188_1 b188_2 z2 z3 z4 z5 z6 z7 z8 z9 z10 z11) fun (c12 : ((Int × (Int × (List (List DV) × Unit))) × ((Int × (Int × (Int × (Bool × (Int × (Int × (Int × (Bool × Unit)))))))) × (Bool × (Int × (Int × Unit)))))) =>
          cond (((((((c12).2).2).2).2).1 != (0 : Int))) (
            H8 x0 b4 x5 (IntKind.i64.wrap (x6 + (1 : Int))) ((c12).1).1 (((c12).1).2).1 ((((c12).1).2).2).1 c) (
            cond ((((c12).2).2).1) (
              cond (((((b4).length : Nat) : Int) == (0 : Int))) (
                c = (false, ())) (
                cond ((x5 == (IntKind.i64.wrap (z2 + (1 : Int))))) (
                  c = (false, ())) (
                  needs (((0 : Int) ≤ (0 : Int)) ∧ ((0 : Int) < (((b4).length : Nat) : Int))) (
                  optAll ((b4)[0]?) fun (r13 : List DV) =>
                  optAll ((dInt IntKind.i64 r13 0)) fun (z14 : Int) =>
                  optAll ((dInt IntKind.i64 r13 1)) fun (z15 : Int) =>
                  optAll ((dInt IntKind.i64 r13 2)) fun (z16 : Int) =>
                  optAll ((dBool r13 3)) fun (z17 : Bool) =>
                  optAll ((dInt IntKind.i64 r13 4)) fun (z18 : Int) =>
                  optAll ((dInt IntKind.i64 r13 5)) fun (z19 : Int) =>
                  optAll ((dInt IntKind.i64 r13 6)) fun (z20 : Int) =>
                  optAll ((dBool r13 7)) fun (z21 : Bool) =>
                  cond ((!((z14 == (((c12).2).1).1) && ((z15 == ((((c12).2).1).2).1) && ((z16 == (((((c12).2).1).2).2).1) && ((z17 == ((((((c12).2).1).2).2).2).1) && ((z18 == (((((((c12).2).1).2).2).2).2).1) && ((z19 == ((((((((c12).2).1).2).2).2).2).2).1) && ((z20 == (((((((((c12).2).1).2).2).2).2).2).2).1) && ((z21 == ((((((((((c12).2).1).2).2).2).2).2).2).2).1) && true)))))))))) (
                    c = (false, ())) (
                    needs (((0 : Int) ≤ (1 : Int)) ∧ (((1 : Int) ≤ (((b4).length : Nat) : Int)) ∧ ((((b4).length : Nat) : Int) ≤ ((((b4).length - 0) : Nat) : Int)))) (
                    needs ((((((((b4).drop (1))).take (((Int.toNat (((b4).length : Nat) : Int)) - 1)))).length * 64) ≤ 140737488355328) ∧ (((((((b4).drop (1))).take (((Int.toNat (((b4).length : Nat) : Int)) - 1)))).length * 8) ≤ 140737488355328)) (
                    needs ((((((b4).drop (1))).take (((Int.toNat (((b4).length : Nat) : Int)) - 1)))).length = (((((b4).drop (1))).take (((Int.toNat (((b4).length : Nat) : Int)) - 1)))).length) (
                    cond (((((((((b4).drop (1))).take (((Int.toNat (((b4).length : Nat) : Int)) - 1)))).length : Nat) : Int) == (0 : Int))) (
                      cond ((((c12).1).1 != (0 : Int))) (
                        c = (false, ())) (
                        cond (((((((((c12).1).2).2).1).length : Nat) : Int) != (((((((b4).drop (1))).take (((Int.toNat (((b4).length : Nat) : Int)) - 1)))).length : Nat) : Int))) (
                          c = (false, ())) (
                          optAll (port_Check.R ((c12).1).1 (((c12).1).2).1 ((((c12).1).2).2).1) fun (c22 : (Int × Unit)) =>
                          optAll (law16_num.R (c22).1) fun (c23 : (Int × Unit)) =>
                          cond (((c23).1 != (0 : Int))) (
                            c = (false, ())) (
                            H8 x0 ((((b4).drop (1))).take (((Int.toNat (((b4).length : Nat) : Int)) - 1))) (0 : Int) (IntKind.i64.wrap (x6 + (1 : Int))) ((c12).1).1 (((c12).1).2).1 ((((c12).1).2).2).1 c)))) (
                      cond ((((c12).1).1 != x5)) (
                        c = (false, ())) (
                        cond (((((((((c12).1).2).2).1).length : Nat) : Int) != (((((((b4).drop (1))).take (((Int.toNat (((b4).length : Nat) : Int)) - 1)))).length : Nat) : Int))) (
                          c = (false, ())) (
                          optAll (port_Check.R ((c12).1).1 (((c12).1).2).1 ((((c12).1).2).2).1) fun (c24 : (Int × Unit)) =>
                          optAll (law16_num.R (c24).1) fun (c25 : (Int × Unit)) =>
                          cond (((c25).1 != (0 : Int))) (
                            c = (false, ())) (
                            H8 x0 ((((b4).drop (1))).take (((Int.toNat (((b4).length : Nat) : Int)) - 1))) x5 (IntKind.i64.wrap (x6 + (1 : Int))) ((c12).1).1 (((c12).1).2).1 ((((c12).1).2).2).1 c)))))))))))) (
              cond (decide (((((b4).length : Nat) : Int) > (0 : Int)))) (
                cond ((x5 != (IntKind.i64.wrap (z2 + (1 : Int))))) (
                  c = (false, ())) (
                  needs ((b4).length = (b4).length) (
                  needs (((((b4 ++ (([[(DV.v (Value.int IntKind.i64 z3)), (DV.v (Value.int IntKind.i64 z4)), (DV.v (Value.int IntKind.i64 z5)), (DV.v (Value.bool z6)), (DV.v (Value.int IntKind.i64 z7)), (DV.v (Value.int IntKind.i64 z8)), (DV.v (Value.int IntKind.i64 z9)), (DV.v (Value.bool z10))]]).take (1)))).length * 64) ≤ 140737488355328) ∧ ((((b4 ++ (([[(DV.v (Value.int IntKind.i64 z3)), (DV.v (Value.int IntKind.i64 z4)), (DV.v (Value.int IntKind.i64 z5)), (DV.v (Value.bool z6)), (DV.v (Value.int IntKind.i64 z7)), (DV.v (Value.int IntKind.i64 z8)), (DV.v (Value.int IntKind.i64 z9)), (DV.v (Value.bool z10))]]).take (1)))).length * 8) ≤ 140737488355328)) (
                  cond ((((c12).1).1 != (IntKind.i64.wrap (z2 + (1 : Int))))) (
                    c = (false, ())) (
                    cond (((((((((c12).1).2).2).1).length : Nat) : Int) != ((((b4 ++ (([[(DV.v (Value.int IntKind.i64 z3)), (DV.v (Value.int IntKind.i64 z4)), (DV.v (Value.int IntKind.i64 z5)), (DV.v (Value.bool z6)), (DV.v (Value.int IntKind.i64 z7)), (DV.v (Value.int IntKind.i64 z8)), (DV.v (Value.int IntKind.i64 z9)), (DV.v (Value.bool z10))]]).take (1)))).length : Nat) : Int))) (
                      c = (false, ())) (
                      optAll (port_Check.R ((c12).1).1 (((c12).1).2).1 ((((c12).1).2).2).1) fun (c26 : (Int × Unit)) =>
                      optAll (law16_num.R (c26).1) fun (c27 : (Int × Unit)) =>
                      cond (((c27).1 != (0 : Int))) (
                        c = (false, ())) (
                        H8 x0 (b4 ++ (([[(DV.v (Value.int IntKind.i64 z3)), (DV.v (Value.int IntKind.i64 z4)), (DV.v (Value.int IntKind.i64 z5)), (DV.v (Value.bool z6)), (DV.v (Value.int IntKind.i64 z7)), (DV.v (Value.int IntKind.i64 z8)), (DV.v (Value.int IntKind.i64 z9)), (DV.v (Value.bool z10))]]).take (1))) (IntKind.i64.wrap (z2 + (1 : Int))) (IntKind.i64.wrap (x6 + (1 : Int))) ((c12).1).1 (((c12).1).2).1 ((((c12).1).2).2).1 c))))))) (
                needs ((b4).length = (b4).length) (
                needs (((((b4 ++ (([[(DV.v (Value.int IntKind.i64 z3)), (DV.v (Value.int IntKind.i64 z4)), (DV.v (Value.int IntKind.i64 z5)), (DV.v (Value.bool z6)), (DV.v (Value.int IntKind.i64 z7)), (DV.v (Value.int IntKind.i64 z8)), (DV.v (Value.int IntKind.i64 z9)), (DV.v (Value.bool z10))]]).take (1)))).length * 64) ≤ 140737488355328) ∧ ((((b4 ++ (([[(DV.v (Value.int IntKind.i64 z3)), (DV.v (Value.int IntKind.i64 z4)), (DV.v (Value.int IntKind.i64 z5)), (DV.v (Value.bool z6)), (DV.v (Value.int IntKind.i64 z7)), (DV.v (Value.int IntKind.i64 z8)), (DV.v (Value.int IntKind.i64 z9)), (DV.v (Value.bool z10))]]).take (1)))).length * 8) ≤ 140737488355328)) (
                cond ((((c12).1).1 != (IntKind.i64.wrap (z2 + (1 : Int))))) (
                  c = (false, ())) (
                  cond (((((((((c12).1).2).2).1).length : Nat) : Int) != ((((b4 ++ (([[(DV.v (Value.int IntKind.i64 z3)), (DV.v (Value.int IntKind.i64 z4)), (DV.v (Value.int IntKind.i64 z5)), (DV.v (Value.bool z6)), (DV.v (Value.int IntKind.i64 z7)), (DV.v (Value.int IntKind.i64 z8)), (DV.v (Value.int IntKind.i64 z9)), (DV.v (Value.bool z10))]]).take (1)))).length : Nat) : Int))) (
                    c = (false, ())) (
                    optAll (port_Check.R ((c12).1).1 (((c12).1).2).1 ((((c12).1).2).2).1) fun (c28 : (Int × Unit)) =>
                    optAll (law16_num.R (c28).1) fun (c29 : (Int × Unit)) =>
                    cond (((c29).1 != (0 : Int))) (
                      c = (false, ())) (
                      H8 x0 (b4 ++ (([[(DV.v (Value.int IntKind.i64 z3)), (DV.v (Value.int IntKind.i64 z4)), (DV.v (Value.int IntKind.i64 z5)), (DV.v (Value.bool z6)), (DV.v (Value.int IntKind.i64 z7)), (DV.v (Value.int IntKind.i64 z8)), (DV.v (Value.int IntKind.i64 z9)), (DV.v (Value.bool z10))]]).take (1))) (IntKind.i64.wrap (z2 + (1 : Int))) (IntKind.i64.wrap (x6 + (1 : Int))) ((c12).1).1 (((c12).1).2).1 ((((c12).1).2).2).1 c)))))))))) (
        optAll (law16_does.R b188 b188_1 b188_2 z2 z3 z4 z5 z6 z7 z8 z9 z10 z11) fun (c30 : ((Int × (Int × (List (List DV) × Unit))) × ((Int × (Int × (Int × (Bool × (Int × (Int × (Int × (Bool × Unit)))))))) × (Bool × (Int × (Int × Unit)))))) =>
        cond (((((((c30).2).2).2).2).1 != (0 : Int))) (
          H8 x0 b4 x5 (IntKind.i64.wrap (x6 + (1 : Int))) ((c30).1).1 (((c30).1).2).1 ((((c30).1).2).2).1 c) (
          cond ((((c30).2).2).1) (
            cond (((((b4).length : Nat) : Int) == (0 : Int))) (
              c = (false, ())) (
              cond ((x5 == (IntKind.i64.wrap (z2 + (1 : Int))))) (
                c = (false, ())) (
                needs (((0 : Int) ≤ (0 : Int)) ∧ ((0 : Int) < (((b4).length : Nat) : Int))) (
                optAll ((b4)[0]?) fun (r31 : List DV) =>
                optAll ((dInt IntKind.i64 r31 0)) fun (z32 : Int) =>
                optAll ((dInt IntKind.i64 r31 1)) fun (z33 : Int) =>
                optAll ((dInt IntKind.i64 r31 2)) fun (z34 : Int) =>
                optAll ((dBool r31 3)) fun (z35 : Bool) =>
                optAll ((dInt IntKind.i64 r31 4)) fun (z36 : Int) =>
                optAll ((dInt IntKind.i64 r31 5)) fun (z37 : Int) =>
                optAll ((dInt IntKind.i64 r31 6)) fun (z38 : Int) =>
                optAll ((dBool r31 7)) fun (z39 : Bool) =>
                cond ((!((z32 == (((c30).2).1).1) && ((z33 == ((((c30).2).1).2).1) && ((z34 == (((((c30).2).1).2).2).1) && ((z35 == ((((((c30).2).1).2).2).2).1) && ((z36 == (((((((c30).2).1).2).2).2).2).1) && ((z37 == ((((((((c30).2).1).2).2).2).2).2).1) && ((z38 == (((((((((c30).2).1).2).2).2).2).2).2).1) && ((z39 == ((((((((((c30).2).1).2).2).2).2).2).2).2).1) && true)))))))))) (
                  c = (false, ())) (
                  needs (((0 : Int) ≤ (1 : Int)) ∧ (((1 : Int) ≤ (((b4).length : Nat) : Int)) ∧ ((((b4).length : Nat) : Int) ≤ ((((b4).length - 0) : Nat) : Int)))) (
                  needs ((((((((b4).drop (1))).take (((Int.toNat (((b4).length : Nat) : Int)) - 1)))).length * 64) ≤ 140737488355328) ∧ (((((((b4).drop (1))).take (((Int.toNat (((b4).length : Nat) : Int)) - 1)))).length * 8) ≤ 140737488355328)) (
                  needs ((((((b4).drop (1))).take (((Int.toNat (((b4).length : Nat) : Int)) - 1)))).length = (((((b4).drop (1))).take (((Int.toNat (((b4).length : Nat) : Int)) - 1)))).length) (
                  cond (((((((((b4).drop (1))).take (((Int.toNat (((b4).length : Nat) : Int)) - 1)))).length : Nat) : Int) == (0 : Int))) (
                    cond ((((c30).1).1 != (0 : Int))) (
                      c = (false, ())) (
                      cond (((((((((c30).1).2).2).1).length : Nat) : Int) != (((((((b4).drop (1))).take (((Int.toNat (((b4).length : Nat) : Int)) - 1)))).length : Nat) : Int))) (
                        c = (false, ())) (
                        optAll (port_Check.R ((c30).1).1 (((c30).1).2).1 ((((c30).1).2).2).1) fun (c40 : (Int × Unit)) =>
                        optAll (law16_num.R (c40).1) fun (c41 : (Int × Unit)) =>
                        cond (((c41).1 != (0 : Int))) (
                          c = (false, ())) (
                          H8 x0 ((((b4).drop (1))).take (((Int.toNat (((b4).length : Nat) : Int)) - 1))) (0 : Int) (IntKind.i64.wrap (x6 + (1 : Int))) ((c30).1).1 (((c30).1).2).1 ((((c30).1).2).2).1 c)))) (
                    cond ((((c30).1).1 != x5)) (
                      c = (false, ())) (
                      cond (((((((((c30).1).2).2).1).length : Nat) : Int) != (((((((b4).drop (1))).take (((Int.toNat (((b4).length : Nat) : Int)) - 1)))).length : Nat) : Int))) (
                        c = (false, ())) (
                        optAll (port_Check.R ((c30).1).1 (((c30).1).2).1 ((((c30).1).2).2).1) fun (c42 : (Int × Unit)) =>
                        optAll (law16_num.R (c42).1) fun (c43 : (Int × Unit)) =>
                        cond (((c43).1 != (0 : Int))) (
                          c = (false, ())) (
                          H8 x0 ((((b4).drop (1))).take (((Int.toNat (((b4).length : Nat) : Int)) - 1))) x5 (IntKind.i64.wrap (x6 + (1 : Int))) ((c30).1).1 (((c30).1).2).1 ((((c30).1).2).2).1 c)))))))))))) (
            cond (decide (((((b4).length : Nat) : Int) > (0 : Int)))) (
              cond ((x5 != (IntKind.i64.wrap (z2 + (1 : Int))))) (
                c = (false, ())) (
                needs ((b4).length = (b4).length) (
                needs (((((b4 ++ (([[(DV.v (Value.int IntKind.i64 z3)), (DV.v (Value.int IntKind.i64 z4)), (DV.v (Value.int IntKind.i64 z5)), (DV.v (Value.bool z6)), (DV.v (Value.int IntKind.i64 z7)), (DV.v (Value.int IntKind.i64 z8)), (DV.v (Value.int IntKind.i64 z9)), (DV.v (Value.bool z10))]]).take (1)))).length * 64) ≤ 140737488355328) ∧ ((((b4 ++ (([[(DV.v (Value.int IntKind.i64 z3)), (DV.v (Value.int IntKind.i64 z4)), (DV.v (Value.int IntKind.i64 z5)), (DV.v (Value.bool z6)), (DV.v (Value.int IntKind.i64 z7)), (DV.v (Value.int IntKind.i64 z8)), (DV.v (Value.int IntKind.i64 z9)), (DV.v (Value.bool z10))]]).take (1)))).length * 8) ≤ 140737488355328)) (
                cond ((((c30).1).1 != (IntKind.i64.wrap (z2 + (1 : Int))))) (
                  c = (false, ())) (
                  cond (((((((((c30).1).2).2).1).length : Nat) : Int) != ((((b4 ++ (([[(DV.v (Value.int IntKind.i64 z3)), (DV.v (Value.int IntKind.i64 z4)), (DV.v (Value.int IntKind.i64 z5)), (DV.v (Value.bool z6)), (DV.v (Value.int IntKind.i64 z7)), (DV.v (Value.int IntKind.i64 z8)), (DV.v (Value.int IntKind.i64 z9)), (DV.v (Value.bool z10))]]).take (1)))).length : Nat) : Int))) (
                    c = (false, ())) (
                    optAll (port_Check.R ((c30).1).1 (((c30).1).2).1 ((((c30).1).2).2).1) fun (c44 : (Int × Unit)) =>
                    optAll (law16_num.R (c44).1) fun (c45 : (Int × Unit)) =>
                    cond (((c45).1 != (0 : Int))) (
                      c = (false, ())) (
                      H8 x0 (b4 ++ (([[(DV.v (Value.int IntKind.i64 z3)), (DV.v (Value.int IntKind.i64 z4)), (DV.v (Value.int IntKind.i64 z5)), (DV.v (Value.bool z6)), (DV.v (Value.int IntKind.i64 z7)), (DV.v (Value.int IntKind.i64 z8)), (DV.v (Value.int IntKind.i64 z9)), (DV.v (Value.bool z10))]]).take (1))) (IntKind.i64.wrap (z2 + (1 : Int))) (IntKind.i64.wrap (x6 + (1 : Int))) ((c30).1).1 (((c30).1).2).1 ((((c30).1).2).2).1 c))))))) (
              needs ((b4).length = (b4).length) (
              needs (((((b4 ++ (([[(DV.v (Value.int IntKind.i64 z3)), (DV.v (Value.int IntKind.i64 z4)), (DV.v (Value.int IntKind.i64 z5)), (DV.v (Value.bool z6)), (DV.v (Value.int IntKind.i64 z7)), (DV.v (Value.int IntKind.i64 z8)), (DV.v (Value.int IntKind.i64 z9)), (DV.v (Value.bool z10))]]).take (1)))).length * 64) ≤ 140737488355328) ∧ ((((b4 ++ (([[(DV.v (Value.int IntKind.i64 z3)), (DV.v (Value.int IntKind.i64 z4)), (DV.v (Value.int IntKind.i64 z5)), (DV.v (Value.bool z6)), (DV.v (Value.int IntKind.i64 z7)), (DV.v (Value.int IntKind.i64 z8)), (DV.v (Value.int IntKind.i64 z9)), (DV.v (Value.bool z10))]]).take (1)))).length * 8) ≤ 140737488355328)) (
              cond ((((c30).1).1 != (IntKind.i64.wrap (z2 + (1 : Int))))) (
                c = (false, ())) (
                cond (((((((((c30).1).2).2).1).length : Nat) : Int) != ((((b4 ++ (([[(DV.v (Value.int IntKind.i64 z3)), (DV.v (Value.int IntKind.i64 z4)), (DV.v (Value.int IntKind.i64 z5)), (DV.v (Value.bool z6)), (DV.v (Value.int IntKind.i64 z7)), (DV.v (Value.int IntKind.i64 z8)), (DV.v (Value.int IntKind.i64 z9)), (DV.v (Value.bool z10))]]).take (1)))).length : Nat) : Int))) (
                  c = (false, ())) (
                  optAll (port_Check.R ((c30).1).1 (((c30).1).2).1 ((((c30).1).2).2).1) fun (c46 : (Int × Unit)) =>
                  optAll (law16_num.R (c46).1) fun (c47 : (Int × Unit)) =>
                  cond (((c47).1 != (0 : Int))) (
                    c = (false, ())) (
                    H8 x0 (b4 ++ (([[(DV.v (Value.int IntKind.i64 z3)), (DV.v (Value.int IntKind.i64 z4)), (DV.v (Value.int IntKind.i64 z5)), (DV.v (Value.bool z6)), (DV.v (Value.int IntKind.i64 z7)), (DV.v (Value.int IntKind.i64 z8)), (DV.v (Value.int IntKind.i64 z9)), (DV.v (Value.bool z10))]]).take (1))) (IntKind.i64.wrap (z2 + (1 : Int))) (IntKind.i64.wrap (x6 + (1 : Int))) ((c30).1).1 (((c30).1).2).1 ((((c30).1).2).2).1 c))))))))))) (
      optAll (law16_live.R) fun (c48 : (Bool × Unit)) =>
      c = ((c48).1, ()))) : H8 x0 b4 x5 x6 b188 b188_1 b188_2 c := head_rule (n := 400) (noSum_ok _) (by kernel_rfl) h
end law16_PortFirst
/-! garrison/garrisonlaw16.PortBits -/
namespace law16_PortBits
def lv : Live := [((7, 1048576), [0, 3, 4, 5, 6], [206])]
abbrev H7 (x0 : List (List DV)) (x4 : Int) (x5 : Int) (x6 : Int) (b206 : Int) (b206_1 : Int) (b206_2 : List (List DV)) (c : (Bool × Unit)) : Prop := HeadAns cfg 5 sh lv (bd cfg 5 [1, 1, 1, 1, 0, 1, 0, 0]) 1048576 [.inBlock 0, .code (bd cfg 5 [1, 1, 1, 1, 1])]
  [(AV.d (DV.lst 10 x0)), (AV.ptr 206 0 0 0), (AV.d (DV.v (Value.int IntKind.i64 x4))), (AV.d (DV.v (Value.int IntKind.i64 x5))), (AV.d (DV.v (Value.int IntKind.i64 x6)))] [(Option.some (VBlk.cell 3 0 [(AV.d (DV.v (Value.int IntKind.i64 b206))), (AV.d (DV.v (Value.int IntKind.i64 b206_1))), (AV.d (DV.lst 8 b206_2))]))] 1048576 c
theorem start (a0 : List (List DV)) (c : (Bool × Unit)) (h :
    cond (decide (((((a0).length : Nat) : Int) > (100 : Int)))) (
      optAll (law16_live.R) fun (c0 : (Bool × Unit)) =>
      c = ((c0).1, ())) (
      H7 a0 (0 : Int) (0 : Int) (0 : Int) (0 : Int) (0 : Int) [] c)) : R a0 = some c := start_rule (n := 400) (lv := lv) (noSum_ok _) (by kernel_rfl) h
theorem H7_step (x0 : List (List DV)) (x4 : Int) (x5 : Int) (x6 : Int) (b206 : Int) (b206_1 : Int) (b206_2 : List (List DV)) (c : (Bool × Unit)) (h :
    cond (decide ((x6 < (((x0).length : Nat) : Int)))) (
      needs ((0 : Int) ≤ x6) (
      optAll ((x0)[(Int.toNat x6)]?) fun (r1 : List DV) =>
      optAll ((dInt IntKind.i64 r1 0)) fun (z2 : Int) =>
      optAll ((dInt IntKind.i64 r1 1)) fun (z3 : Int) =>
      optAll ((dInt IntKind.i64 r1 2)) fun (z4 : Int) =>
      optAll ((dInt IntKind.i64 r1 3)) fun (z5 : Int) =>
      optAll ((dBool r1 4)) fun (z6 : Bool) =>
      optAll ((dInt IntKind.i64 r1 5)) fun (z7 : Int) =>
      optAll ((dInt IntKind.i64 r1 6)) fun (z8 : Int) =>
      optAll ((dInt IntKind.i64 r1 7)) fun (z9 : Int) =>
      optAll ((dBool r1 8)) fun (z10 : Bool) =>
      optAll ((dInt IntKind.i64 r1 9)) fun (z11 : Int) =>
      cond ((z2 == (2 : Int))) (
        cond (decide ((z11 > (0 : Int)))) (
          optAll (port_Signal.R b206 b206_1 b206_2 z11) fun (c12 : ((Int × (Int × (List (List DV) × Unit))) × ((Int × (Int × (Int × (Bool × (Int × (Int × (Int × (Bool × Unit)))))))) × (Bool × Unit)))) =>
          cond ((((c12).2).2).1) (
            cond ((((((c12).2).1).2).1 != z11)) (
              c = (false, ())) (
              cond ((b206_1 != (0 : Int))) (
                c = (false, ())) (
                cond ((z2 == (3 : Int))) (
                  optAll (port_Wait.R ((c12).1).1 (((c12).1).2).1 ((((c12).1).2).2).1 z3) fun (c13 : ((Int × (Int × (List (List DV) × Unit))) × (Int × (Int × Unit)))) =>
                  optAll (law16_num.R (((c13).2).2).1) fun (c14 : (Int × Unit)) =>
                  cond (((c14).1 == (0 : Int))) (
                    cond ((((c13).2).1 != (((c12).1).2).1)) (
                      c = (false, ())) (
                      cond ((((c13).2).1 != (0 : Int))) (
                        cond (((((c13).1).2).1 != (0 : Int))) (
                          c = (false, ())) (
                          cond (((IntKind.i64.wrap (((BitVec.toNat ((BitVec.ofInt 64 (IntKind.i64.wrap (((BitVec.toNat ((BitVec.ofInt 64 (IntKind.i64.wrap (((BitVec.toNat ((BitVec.ofInt 64 x5) ||| (BitVec.ofInt 64 z11))) : Nat) : Int))) ||| (BitVec.ofInt 64 ((c13).2).1))) : Nat) : Int))) &&& (~~~(BitVec.ofInt 64 (IntKind.i64.wrap (((BitVec.toNat ((BitVec.ofInt 64 x4) ||| (BitVec.ofInt 64 z11))) : Nat) : Int)))))) : Nat) : Int)) != (0 : Int))) (
                            c = (false, ())) (
                            cond (((IntKind.i64.wrap (((BitVec.toNat ((BitVec.ofInt 64 x4) ||| (BitVec.ofInt 64 z11))) : Nat) : Int)) != (IntKind.i64.wrap (((BitVec.toNat ((BitVec.ofInt 64 (IntKind.i64.wrap (((BitVec.toNat ((BitVec.ofInt 64 (IntKind.i64.wrap (((BitVec.toNat ((BitVec.ofInt 64 (IntKind.i64.wrap (((BitVec.toNat ((BitVec.ofInt 64 x5) ||| (BitVec.ofInt 64 z11))) : Nat) : Int))) ||| (BitVec.ofInt 64 ((c13).2).1))) : Nat) : Int))) ||| (BitVec.ofInt 64 (((c13).1).2).1))) : Nat) : Int))) ||| (BitVec.ofInt 64 (IntKind.i64.wrap (((BitVec.toNat ((BitVec.ofInt 64 (IntKind.i64.wrap (((BitVec.toNat ((BitVec.ofInt 64 x4) ||| (BitVec.ofInt 64 z11))) : Nat) : Int))) &&& (BitVec.ofInt 64 (IntKind.i64.wrap (((BitVec.toNat ((BitVec.ofInt 64 (IntKind.i64.wrap (((BitVec.toNat ((BitVec.ofInt 64 x5) ||| (BitVec.ofInt 64 z11))) : Nat) : Int))) ||| (BitVec.ofInt 64 ((c13).2).1))) : Nat) : Int))))) : Nat) : Int))))) : Nat) : Int)))) (
                              c = (false, ())) (
                              cond (((((c13).1).2).1 != (0 : Int))) (
                                cond ((((c13).1).1 != (0 : Int))) (
                                  c = (false, ())) (
                                  H7 x0 (IntKind.i64.wrap (((BitVec.toNat ((BitVec.ofInt 64 x4) ||| (BitVec.ofInt 64 z11))) : Nat) : Int)) (IntKind.i64.wrap (((BitVec.toNat ((BitVec.ofInt 64 (IntKind.i64.wrap (((BitVec.toNat ((BitVec.ofInt 64 x5) ||| (BitVec.ofInt 64 z11))) : Nat) : Int))) ||| (BitVec.ofInt 64 ((c13).2).1))) : Nat) : Int)) (IntKind.i64.wrap (x6 + (1 : Int))) ((c13).1).1 (((c13).1).2).1 ((((c13).1).2).2).1 c)) (
                                H7 x0 (IntKind.i64.wrap (((BitVec.toNat ((BitVec.ofInt 64 x4) ||| (BitVec.ofInt 64 z11))) : Nat) : Int)) (IntKind.i64.wrap (((BitVec.toNat ((BitVec.ofInt 64 (IntKind.i64.wrap (((BitVec.toNat ((BitVec.ofInt 64 x5) ||| (BitVec.ofInt 64 z11))) : Nat) : Int))) ||| (BitVec.ofInt 64 ((c13).2).1))) : Nat) : Int)) (IntKind.i64.wrap (x6 + (1 : Int))) ((c13).1).1 (((c13).1).2).1 ((((c13).1).2).2).1 c))))) (
                        cond (((IntKind.i64.wrap (((BitVec.toNat ((BitVec.ofInt 64 (IntKind.i64.wrap (((BitVec.toNat ((BitVec.ofInt 64 (IntKind.i64.wrap (((BitVec.toNat ((BitVec.ofInt 64 x5) ||| (BitVec.ofInt 64 z11))) : Nat) : Int))) ||| (BitVec.ofInt 64 ((c13).2).1))) : Nat) : Int))) &&& (~~~(BitVec.ofInt 64 (IntKind.i64.wrap (((BitVec.toNat ((BitVec.ofInt 64 x4) ||| (BitVec.ofInt 64 z11))) : Nat) : Int)))))) : Nat) : Int)) != (0 : Int))) (
                          c = (false, ())) (
                          cond (((IntKind.i64.wrap (((BitVec.toNat ((BitVec.ofInt 64 x4) ||| (BitVec.ofInt 64 z11))) : Nat) : Int)) != (IntKind.i64.wrap (((BitVec.toNat ((BitVec.ofInt 64 (IntKind.i64.wrap (((BitVec.toNat ((BitVec.ofInt 64 (IntKind.i64.wrap (((BitVec.toNat ((BitVec.ofInt 64 (IntKind.i64.wrap (((BitVec.toNat ((BitVec.ofInt 64 x5) ||| (BitVec.ofInt 64 z11))) : Nat) : Int))) ||| (BitVec.ofInt 64 ((c13).2).1))) : Nat) : Int))) ||| (BitVec.ofInt 64 (((c13).1).2).1))) : Nat) : Int))) ||| (BitVec.ofInt 64 (IntKind.i64.wrap (((BitVec.toNat ((BitVec.ofInt 64 (IntKind.i64.wrap (((BitVec.toNat ((BitVec.ofInt 64 x4) ||| (BitVec.ofInt 64 z11))) : Nat) : Int))) &&& (BitVec.ofInt 64 (IntKind.i64.wrap (((BitVec.toNat ((BitVec.ofInt 64 (IntKind.i64.wrap (((BitVec.toNat ((BitVec.ofInt 64 x5) ||| (BitVec.ofInt 64 z11))) : Nat) : Int))) ||| (BitVec.ofInt 64 ((c13).2).1))) : Nat) : Int))))) : Nat) : Int))))) : Nat) : Int)))) (
                            c = (false, ())) (
                            cond (((((c13).1).2).1 != (0 : Int))) (
                              cond ((((c13).1).1 != (0 : Int))) (
                                c = (false, ())) (
                                H7 x0 (IntKind.i64.wrap (((BitVec.toNat ((BitVec.ofInt 64 x4) ||| (BitVec.ofInt 64 z11))) : Nat) : Int)) (IntKind.i64.wrap (((BitVec.toNat ((BitVec.ofInt 64 (IntKind.i64.wrap (((BitVec.toNat ((BitVec.ofInt 64 x5) ||| (BitVec.ofInt 64 z11))) : Nat) : Int))) ||| (BitVec.ofInt 64 ((c13).2).1))) : Nat) : Int)) (IntKind.i64.wrap (x6 + (1 : Int))) ((c13).1).1 (((c13).1).2).1 ((((c13).1).2).2).1 c)) (
                              H7 x0 (IntKind.i64.wrap (((BitVec.toNat ((BitVec.ofInt 64 x4) ||| (BitVec.ofInt 64 z11))) : Nat) : Int)) (IntKind.i64.wrap (((BitVec.toNat ((BitVec.ofInt 64 (IntKind.i64.wrap (((BitVec.toNat ((BitVec.ofInt 64 x5) ||| (BitVec.ofInt 64 z11))) : Nat) : Int))) ||| (BitVec.ofInt 64 ((c13).2).1))) : Nat) : Int)) (IntKind.i64.wrap (x6 + (1 : Int))) ((c13).1).1 (((c13).1).2).1 ((((c13).1).2).2).1 c)))))) (
                    cond (((IntKind.i64.wrap (((BitVec.toNat ((BitVec.ofInt 64 (IntKind.i64.wrap (((BitVec.toNat ((BitVec.ofInt 64 (IntKind.i64.wrap (((BitVec.toNat ((BitVec.ofInt 64 x5) ||| (BitVec.ofInt 64 z11))) : Nat) : Int))) ||| (BitVec.ofInt 64 ((c13).2).1))) : Nat) : Int))) &&& (~~~(BitVec.ofInt 64 (IntKind.i64.wrap (((BitVec.toNat ((BitVec.ofInt 64 x4) ||| (BitVec.ofInt 64 z11))) : Nat) : Int)))))) : Nat) : Int)) != (0 : Int))) (
                      c = (false, ())) (
                      cond (((IntKind.i64.wrap (((BitVec.toNat ((BitVec.ofInt 64 x4) ||| (BitVec.ofInt 64 z11))) : Nat) : Int)) != (IntKind.i64.wrap (((BitVec.toNat ((BitVec.ofInt 64 (IntKind.i64.wrap (((BitVec.toNat ((BitVec.ofInt 64 (IntKind.i64.wrap (((BitVec.toNat ((BitVec.ofInt 64 (IntKind.i64.wrap (((BitVec.toNat ((BitVec.ofInt 64 x5) ||| (BitVec.ofInt 64 z11))) : Nat) : Int))) ||| (BitVec.ofInt 64 ((c13).2).1))) : Nat) : Int))) ||| (BitVec.ofInt 64 (((c13).1).2).1))) : Nat) : Int))) ||| (BitVec.ofInt 64 (IntKind.i64.wrap (((BitVec.toNat ((BitVec.ofInt 64 (IntKind.i64.wrap (((BitVec.toNat ((BitVec.ofInt 64 x4) ||| (BitVec.ofInt 64 z11))) : Nat) : Int))) &&& (BitVec.ofInt 64 (IntKind.i64.wrap (((BitVec.toNat ((BitVec.ofInt 64 (IntKind.i64.wrap (((BitVec.toNat ((BitVec.ofInt 64 x5) ||| (BitVec.ofInt 64 z11))) : Nat) : Int))) ||| (BitVec.ofInt 64 ((c13).2).1))) : Nat) : Int))))) : Nat) : Int))))) : Nat) : Int)))) (
                        c = (false, ())) (
                        cond (((((c13).1).2).1 != (0 : Int))) (
                          cond ((((c13).1).1 != (0 : Int))) (
                            c = (false, ())) (
                            H7 x0 (IntKind.i64.wrap (((BitVec.toNat ((BitVec.ofInt 64 x4) ||| (BitVec.ofInt 64 z11))) : Nat) : Int)) (IntKind.i64.wrap (((BitVec.toNat ((BitVec.ofInt 64 (IntKind.i64.wrap (((BitVec.toNat ((BitVec.ofInt 64 x5) ||| (BitVec.ofInt 64 z11))) : Nat) : Int))) ||| (BitVec.ofInt 64 ((c13).2).1))) : Nat) : Int)) (IntKind.i64.wrap (x6 + (1 : Int))) ((c13).1).1 (((c13).1).2).1 ((((c13).1).2).2).1 c)) (
                          H7 x0 (IntKind.i64.wrap (((BitVec.toNat ((BitVec.ofInt 64 x4) ||| (BitVec.ofInt 64 z11))) : Nat) : Int)) (IntKind.i64.wrap (((BitVec.toNat ((BitVec.ofInt 64 (IntKind.i64.wrap (((BitVec.toNat ((BitVec.ofInt 64 x5) ||| (BitVec.ofInt 64 z11))) : Nat) : Int))) ||| (BitVec.ofInt 64 ((c13).2).1))) : Nat) : Int)) (IntKind.i64.wrap (x6 + (1 : Int))) ((c13).1).1 (((c13).1).2).1 ((((c13).1).2).2).1 c))))) (
                  cond (((IntKind.i64.wrap (((BitVec.toNat ((BitVec.ofInt 64 (IntKind.i64.wrap (((BitVec.toNat ((BitVec.ofInt 64 x5) ||| (BitVec.ofInt 64 z11))) : Nat) : Int))) &&& (~~~(BitVec.ofInt 64 (IntKind.i64.wrap (((BitVec.toNat ((BitVec.ofInt 64 x4) ||| (BitVec.ofInt 64 z11))) : Nat) : Int)))))) : Nat) : Int)) != (0 : Int))) (
                    c = (false, ())) (
                    cond (((IntKind.i64.wrap (((BitVec.toNat ((BitVec.ofInt 64 x4) ||| (BitVec.ofInt 64 z11))) : Nat) : Int)) != (IntKind.i64.wrap (((BitVec.toNat ((BitVec.ofInt 64 (IntKind.i64.wrap (((BitVec.toNat ((BitVec.ofInt 64 (IntKind.i64.wrap (((BitVec.toNat ((BitVec.ofInt 64 x5) ||| (BitVec.ofInt 64 z11))) : Nat) : Int))) ||| (BitVec.ofInt 64 (((c12).1).2).1))) : Nat) : Int))) ||| (BitVec.ofInt 64 (IntKind.i64.wrap (((BitVec.toNat ((BitVec.ofInt 64 (IntKind.i64.wrap (((BitVec.toNat ((BitVec.ofInt 64 x4) ||| (BitVec.ofInt 64 z11))) : Nat) : Int))) &&& (BitVec.ofInt 64 (IntKind.i64.wrap (((BitVec.toNat ((BitVec.ofInt 64 x5) ||| (BitVec.ofInt 64 z11))) : Nat) : Int))))) : Nat) : Int))))) : Nat) : Int)))) (
                      c = (false, ())) (
                      cond (((((c12).1).2).1 != (0 : Int))) (
                        cond ((((c12).1).1 != (0 : Int))) (
                          c = (false, ())) (
                          H7 x0 (IntKind.i64.wrap (((BitVec.toNat ((BitVec.ofInt 64 x4) ||| (BitVec.ofInt 64 z11))) : Nat) : Int)) (IntKind.i64.wrap (((BitVec.toNat ((BitVec.ofInt 64 x5) ||| (BitVec.ofInt 64 z11))) : Nat) : Int)) (IntKind.i64.wrap (x6 + (1 : Int))) ((c12).1).1 (((c12).1).2).1 ((((c12).1).2).2).1 c)) (
                        H7 x0 (IntKind.i64.wrap (((BitVec.toNat ((BitVec.ofInt 64 x4) ||| (BitVec.ofInt 64 z11))) : Nat) : Int)) (IntKind.i64.wrap (((BitVec.toNat ((BitVec.ofInt 64 x5) ||| (BitVec.ofInt 64 z11))) : Nat) : Int)) (IntKind.i64.wrap (x6 + (1 : Int))) ((c12).1).1 (((c12).1).2).1 ((((c12).1).2).2).1 c))))))) (
            cond ((z2 == (3 : Int))) (
              optAll (port_Wait.R ((c12).1).1 (((c12).1).2).1 ((((c12).1).2).2).1 z3) fun (c15 : ((Int × (Int × (List (List DV) × Unit))) × (Int × (Int × Unit)))) =>
              optAll (law16_num.R (((c15).2).2).1) fun (c16 : (Int × Unit)) =>
              cond (((c16).1 == (0 : Int))) (
                cond ((((c15).2).1 != (((c12).1).2).1)) (
                  c = (false, ())) (
                  cond ((((c15).2).1 != (0 : Int))) (
                    cond (((((c15).1).2).1 != (0 : Int))) (
                      c = (false, ())) (
                      cond (((IntKind.i64.wrap (((BitVec.toNat ((BitVec.ofInt 64 (IntKind.i64.wrap (((BitVec.toNat ((BitVec.ofInt 64 x5) ||| (BitVec.ofInt 64 ((c15).2).1))) : Nat) : Int))) &&& (~~~(BitVec.ofInt 64 (IntKind.i64.wrap (((BitVec.toNat ((BitVec.ofInt 64 x4) ||| (BitVec.ofInt 64 z11))) : Nat) : Int)))))) : Nat) : Int)) != (0 : Int))) (
                        c = (false, ())) (
                        cond (((IntKind.i64.wrap (((BitVec.toNat ((BitVec.ofInt 64 x4) ||| (BitVec.ofInt 64 z11))) : Nat) : Int)) != (IntKind.i64.wrap (((BitVec.toNat ((BitVec.ofInt 64 (IntKind.i64.wrap (((BitVec.toNat ((BitVec.ofInt 64 (IntKind.i64.wrap (((BitVec.toNat ((BitVec.ofInt 64 x5) ||| (BitVec.ofInt 64 ((c15).2).1))) : Nat) : Int))) ||| (BitVec.ofInt 64 (((c15).1).2).1))) : Nat) : Int))) ||| (BitVec.ofInt 64 (IntKind.i64.wrap (((BitVec.toNat ((BitVec.ofInt 64 (IntKind.i64.wrap (((BitVec.toNat ((BitVec.ofInt 64 x4) ||| (BitVec.ofInt 64 z11))) : Nat) : Int))) &&& (BitVec.ofInt 64 (IntKind.i64.wrap (((BitVec.toNat ((BitVec.ofInt 64 x5) ||| (BitVec.ofInt 64 ((c15).2).1))) : Nat) : Int))))) : Nat) : Int))))) : Nat) : Int)))) (
                          c = (false, ())) (
                          cond (((((c15).1).2).1 != (0 : Int))) (
                            cond ((((c15).1).1 != (0 : Int))) (
                              c = (false, ())) (
                              H7 x0 (IntKind.i64.wrap (((BitVec.toNat ((BitVec.ofInt 64 x4) ||| (BitVec.ofInt 64 z11))) : Nat) : Int)) (IntKind.i64.wrap (((BitVec.toNat ((BitVec.ofInt 64 x5) ||| (BitVec.ofInt 64 ((c15).2).1))) : Nat) : Int)) (IntKind.i64.wrap (x6 + (1 : Int))) ((c15).1).1 (((c15).1).2).1 ((((c15).1).2).2).1 c)) (
                            H7 x0 (IntKind.i64.wrap (((BitVec.toNat ((BitVec.ofInt 64 x4) ||| (BitVec.ofInt 64 z11))) : Nat) : Int)) (IntKind.i64.wrap (((BitVec.toNat ((BitVec.ofInt 64 x5) ||| (BitVec.ofInt 64 ((c15).2).1))) : Nat) : Int)) (IntKind.i64.wrap (x6 + (1 : Int))) ((c15).1).1 (((c15).1).2).1 ((((c15).1).2).2).1 c))))) (
                    cond (((IntKind.i64.wrap (((BitVec.toNat ((BitVec.ofInt 64 (IntKind.i64.wrap (((BitVec.toNat ((BitVec.ofInt 64 x5) ||| (BitVec.ofInt 64 ((c15).2).1))) : Nat) : Int))) &&& (~~~(BitVec.ofInt 64 (IntKind.i64.wrap (((BitVec.toNat ((BitVec.ofInt 64 x4) ||| (BitVec.ofInt 64 z11))) : Nat) : Int)))))) : Nat) : Int)) != (0 : Int))) (
                      c = (false, ())) (
                      cond (((IntKind.i64.wrap (((BitVec.toNat ((BitVec.ofInt 64 x4) ||| (BitVec.ofInt 64 z11))) : Nat) : Int)) != (IntKind.i64.wrap (((BitVec.toNat ((BitVec.ofInt 64 (IntKind.i64.wrap (((BitVec.toNat ((BitVec.ofInt 64 (IntKind.i64.wrap (((BitVec.toNat ((BitVec.ofInt 64 x5) ||| (BitVec.ofInt 64 ((c15).2).1))) : Nat) : Int))) ||| (BitVec.ofInt 64 (((c15).1).2).1))) : Nat) : Int))) ||| (BitVec.ofInt 64 (IntKind.i64.wrap (((BitVec.toNat ((BitVec.ofInt 64 (IntKind.i64.wrap (((BitVec.toNat ((BitVec.ofInt 64 x4) ||| (BitVec.ofInt 64 z11))) : Nat) : Int))) &&& (BitVec.ofInt 64 (IntKind.i64.wrap (((BitVec.toNat ((BitVec.ofInt 64 x5) ||| (BitVec.ofInt 64 ((c15).2).1))) : Nat) : Int))))) : Nat) : Int))))) : Nat) : Int)))) (
                        c = (false, ())) (
                        cond (((((c15).1).2).1 != (0 : Int))) (
                          cond ((((c15).1).1 != (0 : Int))) (
                            c = (false, ())) (
                            H7 x0 (IntKind.i64.wrap (((BitVec.toNat ((BitVec.ofInt 64 x4) ||| (BitVec.ofInt 64 z11))) : Nat) : Int)) (IntKind.i64.wrap (((BitVec.toNat ((BitVec.ofInt 64 x5) ||| (BitVec.ofInt 64 ((c15).2).1))) : Nat) : Int)) (IntKind.i64.wrap (x6 + (1 : Int))) ((c15).1).1 (((c15).1).2).1 ((((c15).1).2).2).1 c)) (
                          H7 x0 (IntKind.i64.wrap (((BitVec.toNat ((BitVec.ofInt 64 x4) ||| (BitVec.ofInt 64 z11))) : Nat) : Int)) (IntKind.i64.wrap (((BitVec.toNat ((BitVec.ofInt 64 x5) ||| (BitVec.ofInt 64 ((c15).2).1))) : Nat) : Int)) (IntKind.i64.wrap (x6 + (1 : Int))) ((c15).1).1 (((c15).1).2).1 ((((c15).1).2).2).1 c)))))) (
                cond (((IntKind.i64.wrap (((BitVec.toNat ((BitVec.ofInt 64 (IntKind.i64.wrap (((BitVec.toNat ((BitVec.ofInt 64 x5) ||| (BitVec.ofInt 64 ((c15).2).1))) : Nat) : Int))) &&& (~~~(BitVec.ofInt 64 (IntKind.i64.wrap (((BitVec.toNat ((BitVec.ofInt 64 x4) ||| (BitVec.ofInt 64 z11))) : Nat) : Int)))))) : Nat) : Int)) != (0 : Int))) (
                  c = (false, ())) (
                  cond (((IntKind.i64.wrap (((BitVec.toNat ((BitVec.ofInt 64 x4) ||| (BitVec.ofInt 64 z11))) : Nat) : Int)) != (IntKind.i64.wrap (((BitVec.toNat ((BitVec.ofInt 64 (IntKind.i64.wrap (((BitVec.toNat ((BitVec.ofInt 64 (IntKind.i64.wrap (((BitVec.toNat ((BitVec.ofInt 64 x5) ||| (BitVec.ofInt 64 ((c15).2).1))) : Nat) : Int))) ||| (BitVec.ofInt 64 (((c15).1).2).1))) : Nat) : Int))) ||| (BitVec.ofInt 64 (IntKind.i64.wrap (((BitVec.toNat ((BitVec.ofInt 64 (IntKind.i64.wrap (((BitVec.toNat ((BitVec.ofInt 64 x4) ||| (BitVec.ofInt 64 z11))) : Nat) : Int))) &&& (BitVec.ofInt 64 (IntKind.i64.wrap (((BitVec.toNat ((BitVec.ofInt 64 x5) ||| (BitVec.ofInt 64 ((c15).2).1))) : Nat) : Int))))) : Nat) : Int))))) : Nat) : Int)))) (
                    c = (false, ())) (
                    cond (((((c15).1).2).1 != (0 : Int))) (
                      cond ((((c15).1).1 != (0 : Int))) (
                        c = (false, ())) (
                        H7 x0 (IntKind.i64.wrap (((BitVec.toNat ((BitVec.ofInt 64 x4) ||| (BitVec.ofInt 64 z11))) : Nat) : Int)) (IntKind.i64.wrap (((BitVec.toNat ((BitVec.ofInt 64 x5) ||| (BitVec.ofInt 64 ((c15).2).1))) : Nat) : Int)) (IntKind.i64.wrap (x6 + (1 : Int))) ((c15).1).1 (((c15).1).2).1 ((((c15).1).2).2).1 c)) (
                      H7 x0 (IntKind.i64.wrap (((BitVec.toNat ((BitVec.ofInt 64 x4) ||| (BitVec.ofInt 64 z11))) : Nat) : Int)) (IntKind.i64.wrap (((BitVec.toNat ((BitVec.ofInt 64 x5) ||| (BitVec.ofInt 64 ((c15).2).1))) : Nat) : Int)) (IntKind.i64.wrap (x6 + (1 : Int))) ((c15).1).1 (((c15).1).2).1 ((((c15).1).2).2).1 c))))) (
              cond (((IntKind.i64.wrap (((BitVec.toNat ((BitVec.ofInt 64 x5) &&& (~~~(BitVec.ofInt 64 (IntKind.i64.wrap (((BitVec.toNat ((BitVec.ofInt 64 x4) ||| (BitVec.ofInt 64 z11))) : Nat) : Int)))))) : Nat) : Int)) != (0 : Int))) (
                c = (false, ())) (
                cond (((IntKind.i64.wrap (((BitVec.toNat ((BitVec.ofInt 64 x4) ||| (BitVec.ofInt 64 z11))) : Nat) : Int)) != (IntKind.i64.wrap (((BitVec.toNat ((BitVec.ofInt 64 (IntKind.i64.wrap (((BitVec.toNat ((BitVec.ofInt 64 x5) ||| (BitVec.ofInt 64 (((c12).1).2).1))) : Nat) : Int))) ||| (BitVec.ofInt 64 (IntKind.i64.wrap (((BitVec.toNat ((BitVec.ofInt 64 (IntKind.i64.wrap (((BitVec.toNat ((BitVec.ofInt 64 x4) ||| (BitVec.ofInt 64 z11))) : Nat) : Int))) &&& (BitVec.ofInt 64 x5))) : Nat) : Int))))) : Nat) : Int)))) (
                  c = (false, ())) (
                  cond (((((c12).1).2).1 != (0 : Int))) (
                    cond ((((c12).1).1 != (0 : Int))) (
                      c = (false, ())) (
                      H7 x0 (IntKind.i64.wrap (((BitVec.toNat ((BitVec.ofInt 64 x4) ||| (BitVec.ofInt 64 z11))) : Nat) : Int)) x5 (IntKind.i64.wrap (x6 + (1 : Int))) ((c12).1).1 (((c12).1).2).1 ((((c12).1).2).2).1 c)) (
                    H7 x0 (IntKind.i64.wrap (((BitVec.toNat ((BitVec.ofInt 64 x4) ||| (BitVec.ofInt 64 z11))) : Nat) : Int)) x5 (IntKind.i64.wrap (x6 + (1 : Int))) ((c12).1).1 (((c12).1).2).1 ((((c12).1).2).2).1 c)))))) (
          cond ((z2 == (3 : Int))) (
            optAll (port_Wait.R b206 b206_1 b206_2 z3) fun (c17 : ((Int × (Int × (List (List DV) × Unit))) × (Int × (Int × Unit)))) =>
            optAll (law16_num.R (((c17).2).2).1) fun (c18 : (Int × Unit)) =>
            cond (((c18).1 == (0 : Int))) (
              cond ((((c17).2).1 != b206_1)) (
                c = (false, ())) (
                cond ((((c17).2).1 != (0 : Int))) (
                  cond (((((c17).1).2).1 != (0 : Int))) (
                    c = (false, ())) (
                    cond (((IntKind.i64.wrap (((BitVec.toNat ((BitVec.ofInt 64 (IntKind.i64.wrap (((BitVec.toNat ((BitVec.ofInt 64 x5) ||| (BitVec.ofInt 64 ((c17).2).1))) : Nat) : Int))) &&& (~~~(BitVec.ofInt 64 x4)))) : Nat) : Int)) != (0 : Int))) (
                      c = (false, ())) (
                      cond ((x4 != (IntKind.i64.wrap (((BitVec.toNat ((BitVec.ofInt 64 (IntKind.i64.wrap (((BitVec.toNat ((BitVec.ofInt 64 (IntKind.i64.wrap (((BitVec.toNat ((BitVec.ofInt 64 x5) ||| (BitVec.ofInt 64 ((c17).2).1))) : Nat) : Int))) ||| (BitVec.ofInt 64 (((c17).1).2).1))) : Nat) : Int))) ||| (BitVec.ofInt 64 (IntKind.i64.wrap (((BitVec.toNat ((BitVec.ofInt 64 x4) &&& (BitVec.ofInt 64 (IntKind.i64.wrap (((BitVec.toNat ((BitVec.ofInt 64 x5) ||| (BitVec.ofInt 64 ((c17).2).1))) : Nat) : Int))))) : Nat) : Int))))) : Nat) : Int)))) (
                        c = (false, ())) (
                        cond (((((c17).1).2).1 != (0 : Int))) (
                          cond ((((c17).1).1 != (0 : Int))) (
                            c = (false, ())) (
                            H7 x0 x4 (IntKind.i64.wrap (((BitVec.toNat ((BitVec.ofInt 64 x5) ||| (BitVec.ofInt 64 ((c17).2).1))) : Nat) : Int)) (IntKind.i64.wrap (x6 + (1 : Int))) ((c17).1).1 (((c17).1).2).1 ((((c17).1).2).2).1 c)) (
                          H7 x0 x4 (IntKind.i64.wrap (((BitVec.toNat ((BitVec.ofInt 64 x5) ||| (BitVec.ofInt 64 ((c17).2).1))) : Nat) : Int)) (IntKind.i64.wrap (x6 + (1 : Int))) ((c17).1).1 (((c17).1).2).1 ((((c17).1).2).2).1 c))))) (
                  cond (((IntKind.i64.wrap (((BitVec.toNat ((BitVec.ofInt 64 (IntKind.i64.wrap (((BitVec.toNat ((BitVec.ofInt 64 x5) ||| (BitVec.ofInt 64 ((c17).2).1))) : Nat) : Int))) &&& (~~~(BitVec.ofInt 64 x4)))) : Nat) : Int)) != (0 : Int))) (
                    c = (false, ())) (
                    cond ((x4 != (IntKind.i64.wrap (((BitVec.toNat ((BitVec.ofInt 64 (IntKind.i64.wrap (((BitVec.toNat ((BitVec.ofInt 64 (IntKind.i64.wrap (((BitVec.toNat ((BitVec.ofInt 64 x5) ||| (BitVec.ofInt 64 ((c17).2).1))) : Nat) : Int))) ||| (BitVec.ofInt 64 (((c17).1).2).1))) : Nat) : Int))) ||| (BitVec.ofInt 64 (IntKind.i64.wrap (((BitVec.toNat ((BitVec.ofInt 64 x4) &&& (BitVec.ofInt 64 (IntKind.i64.wrap (((BitVec.toNat ((BitVec.ofInt 64 x5) ||| (BitVec.ofInt 64 ((c17).2).1))) : Nat) : Int))))) : Nat) : Int))))) : Nat) : Int)))) (
                      c = (false, ())) (
                      cond (((((c17).1).2).1 != (0 : Int))) (
                        cond ((((c17).1).1 != (0 : Int))) (
                          c = (false, ())) (
                          H7 x0 x4 (IntKind.i64.wrap (((BitVec.toNat ((BitVec.ofInt 64 x5) ||| (BitVec.ofInt 64 ((c17).2).1))) : Nat) : Int)) (IntKind.i64.wrap (x6 + (1 : Int))) ((c17).1).1 (((c17).1).2).1 ((((c17).1).2).2).1 c)) (
                        H7 x0 x4 (IntKind.i64.wrap (((BitVec.toNat ((BitVec.ofInt 64 x5) ||| (BitVec.ofInt 64 ((c17).2).1))) : Nat) : Int)) (IntKind.i64.wrap (x6 + (1 : Int))) ((c17).1).1 (((c17).1).2).1 ((((c17).1).2).2).1 c)))))) (
              cond (((IntKind.i64.wrap (((BitVec.toNat ((BitVec.ofInt 64 (IntKind.i64.wrap (((BitVec.toNat ((BitVec.ofInt 64 x5) ||| (BitVec.ofInt 64 ((c17).2).1))) : Nat) : Int))) &&& (~~~(BitVec.ofInt 64 x4)))) : Nat) : Int)) != (0 : Int))) (
                c = (false, ())) (
                cond ((x4 != (IntKind.i64.wrap (((BitVec.toNat ((BitVec.ofInt 64 (IntKind.i64.wrap (((BitVec.toNat ((BitVec.ofInt 64 (IntKind.i64.wrap (((BitVec.toNat ((BitVec.ofInt 64 x5) ||| (BitVec.ofInt 64 ((c17).2).1))) : Nat) : Int))) ||| (BitVec.ofInt 64 (((c17).1).2).1))) : Nat) : Int))) ||| (BitVec.ofInt 64 (IntKind.i64.wrap (((BitVec.toNat ((BitVec.ofInt 64 x4) &&& (BitVec.ofInt 64 (IntKind.i64.wrap (((BitVec.toNat ((BitVec.ofInt 64 x5) ||| (BitVec.ofInt 64 ((c17).2).1))) : Nat) : Int))))) : Nat) : Int))))) : Nat) : Int)))) (
                  c = (false, ())) (
                  cond (((((c17).1).2).1 != (0 : Int))) (
                    cond ((((c17).1).1 != (0 : Int))) (
                      c = (false, ())) (
                      H7 x0 x4 (IntKind.i64.wrap (((BitVec.toNat ((BitVec.ofInt 64 x5) ||| (BitVec.ofInt 64 ((c17).2).1))) : Nat) : Int)) (IntKind.i64.wrap (x6 + (1 : Int))) ((c17).1).1 (((c17).1).2).1 ((((c17).1).2).2).1 c)) (
                    H7 x0 x4 (IntKind.i64.wrap (((BitVec.toNat ((BitVec.ofInt 64 x5) ||| (BitVec.ofInt 64 ((c17).2).1))) : Nat) : Int)) (IntKind.i64.wrap (x6 + (1 : Int))) ((c17).1).1 (((c17).1).2).1 ((((c17).1).2).2).1 c))))) (
            cond (((IntKind.i64.wrap (((BitVec.toNat ((BitVec.ofInt 64 x5) &&& (~~~(BitVec.ofInt 64 x4)))) : Nat) : Int)) != (0 : Int))) (
              c = (false, ())) (
              cond ((x4 != (IntKind.i64.wrap (((BitVec.toNat ((BitVec.ofInt 64 (IntKind.i64.wrap (((BitVec.toNat ((BitVec.ofInt 64 x5) ||| (BitVec.ofInt 64 b206_1))) : Nat) : Int))) ||| (BitVec.ofInt 64 (IntKind.i64.wrap (((BitVec.toNat ((BitVec.ofInt 64 x4) &&& (BitVec.ofInt 64 x5))) : Nat) : Int))))) : Nat) : Int)))) (
                c = (false, ())) (
                cond ((b206_1 != (0 : Int))) (
                  cond ((b206 != (0 : Int))) (
                    c = (false, ())) (
                    H7 x0 x4 x5 (IntKind.i64.wrap (x6 + (1 : Int))) b206 b206_1 b206_2 c)) (
                  H7 x0 x4 x5 (IntKind.i64.wrap (x6 + (1 : Int))) b206 b206_1 b206_2 c)))))) (
        cond ((z2 == (3 : Int))) (
          optAll (port_Wait.R b206 b206_1 b206_2 z3) fun (c19 : ((Int × (Int × (List (List DV) × Unit))) × (Int × (Int × Unit)))) =>
          optAll (law16_num.R (((c19).2).2).1) fun (c20 : (Int × Unit)) =>
          cond (((c20).1 == (0 : Int))) (
            cond ((((c19).2).1 != b206_1)) (
              c = (false, ())) (
              cond ((((c19).2).1 != (0 : Int))) (
                cond (((((c19).1).2).1 != (0 : Int))) (
                  c = (false, ())) (
                  cond (((IntKind.i64.wrap (((BitVec.toNat ((BitVec.ofInt 64 (IntKind.i64.wrap (((BitVec.toNat ((BitVec.ofInt 64 x5) ||| (BitVec.ofInt 64 ((c19).2).1))) : Nat) : Int))) &&& (~~~(BitVec.ofInt 64 x4)))) : Nat) : Int)) != (0 : Int))) (
                    c = (false, ())) (
                    cond ((x4 != (IntKind.i64.wrap (((BitVec.toNat ((BitVec.ofInt 64 (IntKind.i64.wrap (((BitVec.toNat ((BitVec.ofInt 64 (IntKind.i64.wrap (((BitVec.toNat ((BitVec.ofInt 64 x5) ||| (BitVec.ofInt 64 ((c19).2).1))) : Nat) : Int))) ||| (BitVec.ofInt 64 (((c19).1).2).1))) : Nat) : Int))) ||| (BitVec.ofInt 64 (IntKind.i64.wrap (((BitVec.toNat ((BitVec.ofInt 64 x4) &&& (BitVec.ofInt 64 (IntKind.i64.wrap (((BitVec.toNat ((BitVec.ofInt 64 x5) ||| (BitVec.ofInt 64 ((c19).2).1))) : Nat) : Int))))) : Nat) : Int))))) : Nat) : Int)))) (
                      c = (false, ())) (
                      cond (((((c19).1).2).1 != (0 : Int))) (
                        cond ((((c19).1).1 != (0 : Int))) (
                          c = (false, ())) (
                          H7 x0 x4 (IntKind.i64.wrap (((BitVec.toNat ((BitVec.ofInt 64 x5) ||| (BitVec.ofInt 64 ((c19).2).1))) : Nat) : Int)) (IntKind.i64.wrap (x6 + (1 : Int))) ((c19).1).1 (((c19).1).2).1 ((((c19).1).2).2).1 c)) (
                        H7 x0 x4 (IntKind.i64.wrap (((BitVec.toNat ((BitVec.ofInt 64 x5) ||| (BitVec.ofInt 64 ((c19).2).1))) : Nat) : Int)) (IntKind.i64.wrap (x6 + (1 : Int))) ((c19).1).1 (((c19).1).2).1 ((((c19).1).2).2).1 c))))) (
                cond (((IntKind.i64.wrap (((BitVec.toNat ((BitVec.ofInt 64 (IntKind.i64.wrap (((BitVec.toNat ((BitVec.ofInt 64 x5) ||| (BitVec.ofInt 64 ((c19).2).1))) : Nat) : Int))) &&& (~~~(BitVec.ofInt 64 x4)))) : Nat) : Int)) != (0 : Int))) (
                  c = (false, ())) (
                  cond ((x4 != (IntKind.i64.wrap (((BitVec.toNat ((BitVec.ofInt 64 (IntKind.i64.wrap (((BitVec.toNat ((BitVec.ofInt 64 (IntKind.i64.wrap (((BitVec.toNat ((BitVec.ofInt 64 x5) ||| (BitVec.ofInt 64 ((c19).2).1))) : Nat) : Int))) ||| (BitVec.ofInt 64 (((c19).1).2).1))) : Nat) : Int))) ||| (BitVec.ofInt 64 (IntKind.i64.wrap (((BitVec.toNat ((BitVec.ofInt 64 x4) &&& (BitVec.ofInt 64 (IntKind.i64.wrap (((BitVec.toNat ((BitVec.ofInt 64 x5) ||| (BitVec.ofInt 64 ((c19).2).1))) : Nat) : Int))))) : Nat) : Int))))) : Nat) : Int)))) (
                    c = (false, ())) (
                    cond (((((c19).1).2).1 != (0 : Int))) (
                      cond ((((c19).1).1 != (0 : Int))) (
                        c = (false, ())) (
                        H7 x0 x4 (IntKind.i64.wrap (((BitVec.toNat ((BitVec.ofInt 64 x5) ||| (BitVec.ofInt 64 ((c19).2).1))) : Nat) : Int)) (IntKind.i64.wrap (x6 + (1 : Int))) ((c19).1).1 (((c19).1).2).1 ((((c19).1).2).2).1 c)) (
                      H7 x0 x4 (IntKind.i64.wrap (((BitVec.toNat ((BitVec.ofInt 64 x5) ||| (BitVec.ofInt 64 ((c19).2).1))) : Nat) : Int)) (IntKind.i64.wrap (x6 + (1 : Int))) ((c19).1).1 (((c19).1).2).1 ((((c19).1).2).2).1 c)))))) (
            cond (((IntKind.i64.wrap (((BitVec.toNat ((BitVec.ofInt 64 (IntKind.i64.wrap (((BitVec.toNat ((BitVec.ofInt 64 x5) ||| (BitVec.ofInt 64 ((c19).2).1))) : Nat) : Int))) &&& (~~~(BitVec.ofInt 64 x4)))) : Nat) : Int)) != (0 : Int))) (
              c = (false, ())) (
              cond ((x4 != (IntKind.i64.wrap (((BitVec.toNat ((BitVec.ofInt 64 (IntKind.i64.wrap (((BitVec.toNat ((BitVec.ofInt 64 (IntKind.i64.wrap (((BitVec.toNat ((BitVec.ofInt 64 x5) ||| (BitVec.ofInt 64 ((c19).2).1))) : Nat) : Int))) ||| (BitVec.ofInt 64 (((c19).1).2).1))) : Nat) : Int))) ||| (BitVec.ofInt 64 (IntKind.i64.wrap (((BitVec.toNat ((BitVec.ofInt 64 x4) &&& (BitVec.ofInt 64 (IntKind.i64.wrap (((BitVec.toNat ((BitVec.ofInt 64 x5) ||| (BitVec.ofInt 64 ((c19).2).1))) : Nat) : Int))))) : Nat) : Int))))) : Nat) : Int)))) (
                c = (false, ())) (
                cond (((((c19).1).2).1 != (0 : Int))) (
                  cond ((((c19).1).1 != (0 : Int))) (
                    c = (false, ())) (
                    H7 x0 x4 (IntKind.i64.wrap (((BitVec.toNat ((BitVec.ofInt 64 x5) ||| (BitVec.ofInt 64 ((c19).2).1))) : Nat) : Int)) (IntKind.i64.wrap (x6 + (1 : Int))) ((c19).1).1 (((c19).1).2).1 ((((c19).1).2).2).1 c)) (
                  H7 x0 x4 (IntKind.i64.wrap (((BitVec.toNat ((BitVec.ofInt 64 x5) ||| (BitVec.ofInt 64 ((c19).2).1))) : Nat) : Int)) (IntKind.i64.wrap (x6 + (1 : Int))) ((c19).1).1 (((c19).1).2).1 ((((c19).1).2).2).1 c))))) (
          cond (((IntKind.i64.wrap (((BitVec.toNat ((BitVec.ofInt 64 x5) &&& (~~~(BitVec.ofInt 64 x4)))) : Nat) : Int)) != (0 : Int))) (
            c = (false, ())) (
            cond ((x4 != (IntKind.i64.wrap (((BitVec.toNat ((BitVec.ofInt 64 (IntKind.i64.wrap (((BitVec.toNat ((BitVec.ofInt 64 x5) ||| (BitVec.ofInt 64 b206_1))) : Nat) : Int))) ||| (BitVec.ofInt 64 (IntKind.i64.wrap (((BitVec.toNat ((BitVec.ofInt 64 x4) &&& (BitVec.ofInt 64 x5))) : Nat) : Int))))) : Nat) : Int)))) (
              c = (false, ())) (
              cond ((b206_1 != (0 : Int))) (
                cond ((b206 != (0 : Int))) (
                  c = (false, ())) (
                  H7 x0 x4 x5 (IntKind.i64.wrap (x6 + (1 : Int))) b206 b206_1 b206_2 c)) (
                H7 x0 x4 x5 (IntKind.i64.wrap (x6 + (1 : Int))) b206 b206_1 b206_2 c))))))) (
      optAll (law16_live.R) fun (c21 : (Bool × Unit)) =>
      c = ((c21).1, ()))) : H7 x0 x4 x5 x6 b206 b206_1 b206_2 c := head_rule (n := 400) (noSum_ok _) (by kernel_rfl) h
end law16_PortBits
/-! garrison/garrisonlaw16.PortDrops -/
namespace law16_PortDrops
def lv : Live := [((7, 1048576), [1, 2, 5, 6, 7, 8], [98, 386, 7])]
abbrev H7 (x1 : Int) (x6 : Bool) (b7 : List (List DV)) (x8 : Int) (b98 : Int) (b98_1 : Int) (b98_2 : List (List DV)) (b386 : Int) (b386_1 : Int) (b386_2 : List (List DV)) (c : (Bool × Unit)) : Prop := HeadAns cfg 6 sh lv (bd cfg 6 [1, 1, 1, 1, 0, 1, 0, 0]) 1048576 [.inBlock 0, .code (bd cfg 6 [1, 1, 1, 1, 1])]
  [(AV.d (DV.v (Value.int IntKind.i64 x1))), (AV.ptr 98 0 0 0), (AV.ptr 386 0 0 0), (AV.d (DV.v (Value.bool x6))), (AV.ref 7 0 0 (List.length b7)), (AV.d (DV.v (Value.int IntKind.i64 x8)))] [(Option.some (VBlk.cell 3 0 [(AV.d (DV.v (Value.int IntKind.i64 b98))), (AV.d (DV.v (Value.int IntKind.i64 b98_1))), (AV.d (DV.lst 8 b98_2))])), (Option.some (VBlk.cell 3 0 [(AV.d (DV.v (Value.int IntKind.i64 b386))), (AV.d (DV.v (Value.int IntKind.i64 b386_1))), (AV.d (DV.lst 8 b386_2))])), (Option.some (VBlk.drow 8 0 b7))] 1048576 c
theorem start (a0_0 : Int) (a0_1 : Int) (a0_2 : List (List DV)) (a1 : Int) (c : (Bool × Unit)) (h :
    cond (decide (((((a0_2).length : Nat) : Int) > (100 : Int)))) (
      optAll (law16_live.R) fun (c0 : (Bool × Unit)) =>
      c = ((c0).1, ())) (
      optAll (port_Check.R a0_0 a0_1 a0_2) fun (c1 : (Int × Unit)) =>
      optAll (law16_num.R (c1).1) fun (c2 : (Int × Unit)) =>
      cond (((c2).1 != (0 : Int))) (
        optAll (law16_live.R) fun (c3 : (Bool × Unit)) =>
        c = ((c3).1, ())) (
        optAll (port_Drop.R a0_0 a0_1 a0_2 a1) fun (c4 : ((Int × (Int × (List (List DV) × Unit))) × (Bool × Unit))) =>
        H7 a1 ((c4).2).1 [] (0 : Int) a0_0 a0_1 a0_2 ((c4).1).1 (((c4).1).2).1 ((((c4).1).2).2).1 c))) : R a0_0 a0_1 a0_2 a1 = some c := start_rule (n := 400) (lv := lv) (noSum_ok _) (by kernel_rfl) h
theorem H7_step (x1 : Int) (x6 : Bool) (b7 : List (List DV)) (x8 : Int) (b98 : Int) (b98_1 : Int) (b98_2 : List (List DV)) (b386 : Int) (b386_1 : Int) (b386_2 : List (List DV)) (c : (Bool × Unit)) (h :
    cond (decide ((x8 < (((b98_2).length : Nat) : Int)))) (
      needs ((0 : Int) ≤ x8) (
      optAll ((b98_2)[(Int.toNat x8)]?) fun (r5 : List DV) =>
      optAll ((dInt IntKind.i64 r5 0)) fun (z6 : Int) =>
      cond ((z6 != x1)) (
        needs ((0 : Int) ≤ x8) (
        optAll ((b98_2)[(Int.toNat x8)]?) fun (r7 : List DV) =>
        optAll ((dInt IntKind.i64 r7 0)) fun (z8 : Int) =>
        optAll ((dInt IntKind.i64 r7 1)) fun (z9 : Int) =>
        optAll ((dInt IntKind.i64 r7 2)) fun (z10 : Int) =>
        optAll ((dBool r7 3)) fun (z11 : Bool) =>
        optAll ((dInt IntKind.i64 r7 4)) fun (z12 : Int) =>
        optAll ((dInt IntKind.i64 r7 5)) fun (z13 : Int) =>
        optAll ((dInt IntKind.i64 r7 6)) fun (z14 : Int) =>
        optAll ((dBool r7 7)) fun (z15 : Bool) =>
        needs ((b7).length = (b7).length) (
        needs (((((b7 ++ (([[(DV.v (Value.int IntKind.i64 z8)), (DV.v (Value.int IntKind.i64 z9)), (DV.v (Value.int IntKind.i64 z10)), (DV.v (Value.bool z11)), (DV.v (Value.int IntKind.i64 z12)), (DV.v (Value.int IntKind.i64 z13)), (DV.v (Value.int IntKind.i64 z14)), (DV.v (Value.bool z15))]]).take (1)))).length * 64) ≤ 140737488355328) ∧ ((((b7 ++ (([[(DV.v (Value.int IntKind.i64 z8)), (DV.v (Value.int IntKind.i64 z9)), (DV.v (Value.int IntKind.i64 z10)), (DV.v (Value.bool z11)), (DV.v (Value.int IntKind.i64 z12)), (DV.v (Value.int IntKind.i64 z13)), (DV.v (Value.int IntKind.i64 z14)), (DV.v (Value.bool z15))]]).take (1)))).length * 8) ≤ 140737488355328)) (
        H7 x1 x6 (b7 ++ (([[(DV.v (Value.int IntKind.i64 z8)), (DV.v (Value.int IntKind.i64 z9)), (DV.v (Value.int IntKind.i64 z10)), (DV.v (Value.bool z11)), (DV.v (Value.int IntKind.i64 z12)), (DV.v (Value.int IntKind.i64 z13)), (DV.v (Value.int IntKind.i64 z14)), (DV.v (Value.bool z15))]]).take (1))) (IntKind.i64.wrap (x8 + (1 : Int))) b98 b98_1 b98_2 b386 b386_1 b386_2 c)))) (
        H7 x1 x6 b7 (IntKind.i64.wrap (x8 + (1 : Int))) b98 b98_1 b98_2 b386 b386_1 b386_2 c))) (
      optAll (port_Drop.R b386 b386_1 b386_2 x1) fun (c16 : ((Int × (Int × (List (List DV) × Unit))) × (Bool × Unit))) =>
      cond ((x6 == decide (((((b7).length : Nat) : Int) < (((b98_2).length : Nat) : Int))))) (
        cond ((!((c16).2).1)) (
          optAll (ref16_Same.R ((c16).1).1 (((c16).1).2).1 ((((c16).1).2).2).1 b386 b386_1 b386_2) fun (c17 : (Bool × Unit)) =>
          cond ((c17).1) (
            optAll (port_Check.R b386 b386_1 b386_2) fun (c18 : (Int × Unit)) =>
            optAll (law16_num.R (c18).1) fun (c19 : (Int × Unit)) =>
            cond (((c19).1 == (0 : Int))) (
              optAll (ref16_Same.R (0 : Int) (0 : Int) b386_2 (0 : Int) (0 : Int) ((b7).take ((b7).length))) fun (c20 : (Bool × Unit)) =>
              cond ((c20).1) (
                cond ((b386_1 == b98_1)) (
                  optAll (law16_live.R) fun (c21 : (Bool × Unit)) =>
                  c = ((c21).1, ())) (
                  c = (false, ()))) (
                c = (false, ()))) (
              c = (false, ()))) (
            c = (false, ()))) (
          c = (false, ()))) (
        c = (false, ())))) : H7 x1 x6 b7 x8 b98 b98_1 b98_2 b386 b386_1 b386_2 c := head_rule (n := 400) (noSum_ok _) (by kernel_rfl) h
end law16_PortDrops
/-! garrison/garrisonlaw16.PortTurns -/
namespace law16_PortTurns
def lv : Live := []
theorem start (a0_0 : Int) (a0_1 : Int) (a0_2 : Int) (a0_3 : Bool) (a0_4 : Int) (a0_5 : Int) (a0_6 : Int) (a0_7 : Bool) (a1_0 : Int) (a1_1 : Int) (a1_2 : Int) (a1_3 : Bool) (a1_4 : Int) (a1_5 : Int) (a1_6 : Int) (a1_7 : Bool) (a2 : Bool) (c : (Bool × Unit)) (h :
    cond (decide ((a0_0 < (0 : Int)))) (
      optAll (law16_live.R) fun (c0 : (Bool × Unit)) =>
      c = ((c0).1, ())) (
      cond (decide ((a0_0 ≥ (64 : Int)))) (
        optAll (law16_live.R) fun (c1 : (Bool × Unit)) =>
        c = ((c1).1, ())) (
        cond (decide ((a1_0 < (0 : Int)))) (
          optAll (law16_live.R) fun (c2 : (Bool × Unit)) =>
          c = ((c2).1, ())) (
          cond (decide ((a1_0 ≥ (64 : Int)))) (
            optAll (law16_live.R) fun (c3 : (Bool × Unit)) =>
            c = ((c3).1, ())) (
            cond (a2) (
              optAll (port_Send.R (0 : Int) (0 : Int) [] a0_0 a0_1 a0_2 a0_3 a0_4 a0_5 a0_6 a0_7) fun (c4 : ((Int × (Int × (List (List DV) × Unit))) × ((Int × (Int × (Int × (Bool × (Int × (Int × (Int × (Bool × Unit)))))))) × (Bool × (Int × Unit))))) =>
              optAll (port_Recv.R ((c4).1).1 (((c4).1).2).1 ((((c4).1).2).2).1 a1_0 a1_1 a1_2 a1_3 a1_4 a1_5 a1_6 a1_7) fun (c5 : ((Int × (Int × (List (List DV) × Unit))) × ((Int × (Int × (Int × (Bool × (Int × (Int × (Int × (Bool × Unit)))))))) × (Bool × (Int × Unit))))) =>
              cond ((a0_0 == a1_0)) (
                optAll (law16_num.R ((((c4).2).2).2).1) fun (c6 : (Int × Unit)) =>
                cond (((c6).1 == (0 : Int))) (
                  optAll (law16_num.R ((((c5).2).2).2).1) fun (c7 : (Int × Unit)) =>
                  cond (((c7).1 == (8 : Int))) (
                    optAll (port_Same.R ((c4).1).1 (((c4).1).2).1 ((((c4).1).2).2).1 ((c5).1).1 (((c5).1).2).1 ((((c5).1).2).2).1) fun (c8 : (Bool × Unit)) =>
                    cond ((c8).1) (
                      optAll (law16_live.R) fun (c9 : (Bool × Unit)) =>
                      c = ((c9).1, ())) (
                      c = (false, ()))) (
                    c = (false, ()))) (
                  c = (false, ()))) (
                optAll (law16_num.R ((((c4).2).2).2).1) fun (c10 : (Int × Unit)) =>
                optAll (law16_num.R ((((c5).2).2).2).1) fun (c11 : (Int × Unit)) =>
                cond (((IntKind.i64.wrap ((c10).1 + (c11).1)) == (0 : Int))) (
                  cond ((((c5).2).2).1) (
                    cond ((((((c5).2).1).1 == a0_0) && ((((((c5).2).1).2).1 == a0_1) && (((((((c5).2).1).2).2).1 == a0_2) && ((((((((c5).2).1).2).2).2).1 == a0_3) && (((((((((c5).2).1).2).2).2).2).1 == a0_4) && ((((((((((c5).2).1).2).2).2).2).2).1 == a0_5) && (((((((((((c5).2).1).2).2).2).2).2).2).1 == a0_6) && ((((((((((((c5).2).1).2).2).2).2).2).2).2).1 == a0_7) && true))))))))) (
                      optAll (port_Same.R ((c5).1).1 (((c5).1).2).1 ((((c5).1).2).2).1 (0 : Int) (0 : Int) []) fun (c12 : (Bool × Unit)) =>
                      cond ((c12).1) (
                        optAll (law16_live.R) fun (c13 : (Bool × Unit)) =>
                        c = ((c13).1, ())) (
                        c = (false, ()))) (
                      c = (false, ()))) (
                    c = (false, ()))) (
                  c = (false, ())))) (
              optAll (port_Recv.R (0 : Int) (0 : Int) [] a0_0 a0_1 a0_2 a0_3 a0_4 a0_5 a0_6 a0_7) fun (c14 : ((Int × (Int × (List (List DV) × Unit))) × ((Int × (Int × (Int × (Bool × (Int × (Int × (Int × (Bool × Unit)))))))) × (Bool × (Int × Unit))))) =>
              optAll (port_Send.R ((c14).1).1 (((c14).1).2).1 ((((c14).1).2).2).1 a1_0 a1_1 a1_2 a1_3 a1_4 a1_5 a1_6 a1_7) fun (c15 : ((Int × (Int × (List (List DV) × Unit))) × ((Int × (Int × (Int × (Bool × (Int × (Int × (Int × (Bool × Unit)))))))) × (Bool × (Int × Unit))))) =>
              cond ((a0_0 == a1_0)) (
                optAll (law16_num.R ((((c14).2).2).2).1) fun (c16 : (Int × Unit)) =>
                cond (((c16).1 == (0 : Int))) (
                  optAll (law16_num.R ((((c15).2).2).2).1) fun (c17 : (Int × Unit)) =>
                  cond (((c17).1 == (8 : Int))) (
                    optAll (port_Same.R ((c14).1).1 (((c14).1).2).1 ((((c14).1).2).2).1 ((c15).1).1 (((c15).1).2).1 ((((c15).1).2).2).1) fun (c18 : (Bool × Unit)) =>
                    cond ((c18).1) (
                      optAll (law16_live.R) fun (c19 : (Bool × Unit)) =>
                      c = ((c19).1, ())) (
                      c = (false, ()))) (
                    c = (false, ()))) (
                  c = (false, ()))) (
                optAll (law16_num.R ((((c14).2).2).2).1) fun (c20 : (Int × Unit)) =>
                optAll (law16_num.R ((((c15).2).2).2).1) fun (c21 : (Int × Unit)) =>
                cond (((IntKind.i64.wrap ((c20).1 + (c21).1)) == (0 : Int))) (
                  cond ((((c15).2).2).1) (
                    cond ((((((c15).2).1).1 == a0_0) && ((((((c15).2).1).2).1 == a0_1) && (((((((c15).2).1).2).2).1 == a0_2) && ((((((((c15).2).1).2).2).2).1 == a0_3) && (((((((((c15).2).1).2).2).2).2).1 == a0_4) && ((((((((((c15).2).1).2).2).2).2).2).1 == a0_5) && (((((((((((c15).2).1).2).2).2).2).2).2).1 == a0_6) && ((((((((((((c15).2).1).2).2).2).2).2).2).2).1 == a0_7) && true))))))))) (
                      optAll (port_Same.R ((c15).1).1 (((c15).1).2).1 ((((c15).1).2).2).1 (0 : Int) (0 : Int) []) fun (c22 : (Bool × Unit)) =>
                      cond ((c22).1) (
                        optAll (law16_live.R) fun (c23 : (Bool × Unit)) =>
                        c = ((c23).1, ())) (
                        c = (false, ()))) (
                      c = (false, ()))) (
                    c = (false, ()))) (
                  c = (false, ()))))))))) : R a0_0 a0_1 a0_2 a0_3 a0_4 a0_5 a0_6 a0_7 a1_0 a1_1 a1_2 a1_3 a1_4 a1_5 a1_6 a1_7 a2 = some c := start_rule (n := 400) (lv := lv) (noSum_ok _) (by kernel_rfl) h
end law16_PortTurns
/-! garrison/garrisonlaw16.PortMany -/
namespace law16_PortMany
def lv : Live := [((6, 1048576), [0, 1, 5, 6], [235]), ((17, 2097152), [0, 1, 5, 10], [235])]
abbrev H6 (x0 : Int) (x1 : Bool) (x6 : Int) (b235 : Int) (b235_1 : Int) (b235_2 : List (List DV)) (c : (Bool × Unit)) : Prop := HeadAns cfg 8 sh lv (bd cfg 8 [1, 1, 1, 0, 1, 0, 0]) 1048576 [.inBlock 0, .code (bd cfg 8 [1, 1, 1, 1])]
  [(AV.d (DV.v (Value.int IntKind.i64 x0))), (AV.d (DV.v (Value.bool x1))), (AV.ptr 235 0 0 0), (AV.d (DV.v (Value.int IntKind.i64 x6)))] [(Option.some (VBlk.cell 3 0 [(AV.d (DV.v (Value.int IntKind.i64 b235))), (AV.d (DV.v (Value.int IntKind.i64 b235_1))), (AV.d (DV.lst 8 b235_2))]))] 1048576 c
abbrev H17 (x0 : Int) (x1 : Bool) (x10 : Int) (b235 : Int) (b235_1 : Int) (b235_2 : List (List DV)) (c : (Bool × Unit)) : Prop := HeadAns cfg 8 sh lv (bd cfg 8 [1, 1, 1, 1, 0, 1, 0, 0]) 2097152 [.inBlock 2, .code (bd cfg 8 [1, 1, 1, 1, 1])]
  [(AV.d (DV.v (Value.int IntKind.i64 x0))), (AV.d (DV.v (Value.bool x1))), (AV.ptr 235 0 0 0), (AV.d (DV.v (Value.int IntKind.i64 x10)))] [(Option.some (VBlk.cell 3 0 [(AV.d (DV.v (Value.int IntKind.i64 b235))), (AV.d (DV.v (Value.int IntKind.i64 b235_1))), (AV.d (DV.lst 8 b235_2))]))] 2097152 c
theorem start (a0 : Int) (a1 : Bool) (c : (Bool × Unit)) (h :
    cond (decide ((a0 < (0 : Int)))) (
      optAll (law16_live.R) fun (c0 : (Bool × Unit)) =>
      c = ((c0).1, ())) (
      cond (decide ((a0 ≥ (64 : Int)))) (
        optAll (law16_live.R) fun (c1 : (Bool × Unit)) =>
        c = ((c1).1, ())) (
        H6 a0 a1 (0 : Int) (0 : Int) (0 : Int) [] c))) : R a0 a1 = some c := start_rule (n := 400) (lv := lv) (noSum_ok _) (by kernel_rfl) h
theorem H6_step (x0 : Int) (x1 : Bool) (x6 : Int) (b235 : Int) (b235_1 : Int) (b235_2 : List (List DV)) (c : (Bool × Unit)) (h :
    cond (decide ((x6 < x0))) (
      cond (x1) (
        optAll (law16_who.R x6) fun (c2 : ((Int × (Int × (Int × (Bool × (Int × (Int × (Int × (Bool × Unit)))))))) × Unit)) =>
        optAll (port_Send.R b235 b235_1 b235_2 ((c2).1).1 (((c2).1).2).1 ((((c2).1).2).2).1 (((((c2).1).2).2).2).1 ((((((c2).1).2).2).2).2).1 (((((((c2).1).2).2).2).2).2).1 ((((((((c2).1).2).2).2).2).2).2).1 (((((((((c2).1).2).2).2).2).2).2).2).1) fun (c3 : ((Int × (Int × (List (List DV) × Unit))) × ((Int × (Int × (Int × (Bool × (Int × (Int × (Int × (Bool × Unit)))))))) × (Bool × (Int × Unit))))) =>
        cond ((((c3).2).2).1) (
          c = (false, ())) (
          optAll (law16_num.R ((((c3).2).2).2).1) fun (c4 : (Int × Unit)) =>
          cond (((c4).1 != (0 : Int))) (
            c = (false, ())) (
            cond (((((((((c3).1).2).2).1).length : Nat) : Int) != (IntKind.i64.wrap (x6 + (1 : Int))))) (
              c = (false, ())) (
              H6 x0 x1 (IntKind.i64.wrap (x6 + (1 : Int))) ((c3).1).1 (((c3).1).2).1 ((((c3).1).2).2).1 c)))) (
        optAll (law16_who.R x6) fun (c5 : ((Int × (Int × (Int × (Bool × (Int × (Int × (Int × (Bool × Unit)))))))) × Unit)) =>
        optAll (port_Recv.R b235 b235_1 b235_2 ((c5).1).1 (((c5).1).2).1 ((((c5).1).2).2).1 (((((c5).1).2).2).2).1 ((((((c5).1).2).2).2).2).1 (((((((c5).1).2).2).2).2).2).1 ((((((((c5).1).2).2).2).2).2).2).1 (((((((((c5).1).2).2).2).2).2).2).2).1) fun (c6 : ((Int × (Int × (List (List DV) × Unit))) × ((Int × (Int × (Int × (Bool × (Int × (Int × (Int × (Bool × Unit)))))))) × (Bool × (Int × Unit))))) =>
        cond ((((c6).2).2).1) (
          c = (false, ())) (
          optAll (law16_num.R ((((c6).2).2).2).1) fun (c7 : (Int × Unit)) =>
          cond (((c7).1 != (0 : Int))) (
            c = (false, ())) (
            cond (((((((((c6).1).2).2).1).length : Nat) : Int) != (IntKind.i64.wrap (x6 + (1 : Int))))) (
              c = (false, ())) (
              H6 x0 x1 (IntKind.i64.wrap (x6 + (1 : Int))) ((c6).1).1 (((c6).1).2).1 ((((c6).1).2).2).1 c))))) (
      H17 x0 x1 (0 : Int) b235 b235_1 b235_2 c)) : H6 x0 x1 x6 b235 b235_1 b235_2 c := head_rule (n := 400) (noSum_ok _) (by kernel_rfl) h
theorem H17_step (x0 : Int) (x1 : Bool) (x10 : Int) (b235 : Int) (b235_1 : Int) (b235_2 : List (List DV)) (c : (Bool × Unit)) (h :
    cond (decide ((x10 < x0))) (
      cond (x1) (
        optAll (law16_who.R (63 : Int)) fun (c8 : ((Int × (Int × (Int × (Bool × (Int × (Int × (Int × (Bool × Unit)))))))) × Unit)) =>
        optAll (port_Recv.R b235 b235_1 b235_2 ((c8).1).1 (((c8).1).2).1 ((((c8).1).2).2).1 (((((c8).1).2).2).2).1 ((((((c8).1).2).2).2).2).1 (((((((c8).1).2).2).2).2).2).1 ((((((((c8).1).2).2).2).2).2).2).1 (((((((((c8).1).2).2).2).2).2).2).2).1) fun (c9 : ((Int × (Int × (List (List DV) × Unit))) × ((Int × (Int × (Int × (Bool × (Int × (Int × (Int × (Bool × Unit)))))))) × (Bool × (Int × Unit))))) =>
        cond ((!(((c9).2).2).1)) (
          c = (false, ())) (
          optAll (law16_num.R ((((c9).2).2).2).1) fun (c10 : (Int × Unit)) =>
          cond (((c10).1 != (0 : Int))) (
            c = (false, ())) (
            optAll (law16_who.R x10) fun (c11 : ((Int × (Int × (Int × (Bool × (Int × (Int × (Int × (Bool × Unit)))))))) × Unit)) =>
            cond ((!(((((c9).2).1).1 == ((c11).1).1) && ((((((c9).2).1).2).1 == (((c11).1).2).1) && (((((((c9).2).1).2).2).1 == ((((c11).1).2).2).1) && ((((((((c9).2).1).2).2).2).1 == (((((c11).1).2).2).2).1) && (((((((((c9).2).1).2).2).2).2).1 == ((((((c11).1).2).2).2).2).1) && ((((((((((c9).2).1).2).2).2).2).2).1 == (((((((c11).1).2).2).2).2).2).1) && (((((((((((c9).2).1).2).2).2).2).2).2).1 == ((((((((c11).1).2).2).2).2).2).2).1) && ((((((((((((c9).2).1).2).2).2).2).2).2).2).1 == (((((((((c11).1).2).2).2).2).2).2).2).1) && true)))))))))) (
              c = (false, ())) (
              H17 x0 x1 (IntKind.i64.wrap (x10 + (1 : Int))) ((c9).1).1 (((c9).1).2).1 ((((c9).1).2).2).1 c)))) (
        optAll (law16_who.R (63 : Int)) fun (c12 : ((Int × (Int × (Int × (Bool × (Int × (Int × (Int × (Bool × Unit)))))))) × Unit)) =>
        optAll (port_Send.R b235 b235_1 b235_2 ((c12).1).1 (((c12).1).2).1 ((((c12).1).2).2).1 (((((c12).1).2).2).2).1 ((((((c12).1).2).2).2).2).1 (((((((c12).1).2).2).2).2).2).1 ((((((((c12).1).2).2).2).2).2).2).1 (((((((((c12).1).2).2).2).2).2).2).2).1) fun (c13 : ((Int × (Int × (List (List DV) × Unit))) × ((Int × (Int × (Int × (Bool × (Int × (Int × (Int × (Bool × Unit)))))))) × (Bool × (Int × Unit))))) =>
        cond ((!(((c13).2).2).1)) (
          c = (false, ())) (
          optAll (law16_num.R ((((c13).2).2).2).1) fun (c14 : (Int × Unit)) =>
          cond (((c14).1 != (0 : Int))) (
            c = (false, ())) (
            optAll (law16_who.R x10) fun (c15 : ((Int × (Int × (Int × (Bool × (Int × (Int × (Int × (Bool × Unit)))))))) × Unit)) =>
            cond ((!(((((c13).2).1).1 == ((c15).1).1) && ((((((c13).2).1).2).1 == (((c15).1).2).1) && (((((((c13).2).1).2).2).1 == ((((c15).1).2).2).1) && ((((((((c13).2).1).2).2).2).1 == (((((c15).1).2).2).2).1) && (((((((((c13).2).1).2).2).2).2).1 == ((((((c15).1).2).2).2).2).1) && ((((((((((c13).2).1).2).2).2).2).2).1 == (((((((c15).1).2).2).2).2).2).1) && (((((((((((c13).2).1).2).2).2).2).2).2).1 == ((((((((c15).1).2).2).2).2).2).2).1) && ((((((((((((c13).2).1).2).2).2).2).2).2).2).1 == (((((((((c15).1).2).2).2).2).2).2).2).1) && true)))))))))) (
              c = (false, ())) (
              H17 x0 x1 (IntKind.i64.wrap (x10 + (1 : Int))) ((c13).1).1 (((c13).1).2).1 ((((c13).1).2).2).1 c))))) (
      optAll (port_Same.R b235 b235_1 b235_2 (0 : Int) (0 : Int) []) fun (c16 : (Bool × Unit)) =>
      cond ((c16).1) (
        optAll (law16_live.R) fun (c17 : (Bool × Unit)) =>
        c = ((c17).1, ())) (
        c = (false, ())))) : H17 x0 x1 x10 b235 b235_1 b235_2 c := head_rule (n := 400) (noSum_ok _) (by kernel_rfl) h
end law16_PortMany
/-! garrison/garrisonlaw16.live -/
namespace law16_live
theorem closed : R = some (true, ()) := ret_closed (n := 4000) (v := .d (.v (.bool true))) (by kernel_rfl) (by kernel_rfl)
end law16_live
/-! garrison/garrisonlaw16.does -/
namespace law16_does
def lv : Live := []
theorem start (a0_0 : Int) (a0_1 : Int) (a0_2 : List (List DV)) (a1_0 : Int) (a1_1 : Int) (a1_2 : Int) (a1_3 : Int) (a1_4 : Bool) (a1_5 : Int) (a1_6 : Int) (a1_7 : Int) (a1_8 : Bool) (a1_9 : Int) (c : ((Int × (Int × (List (List DV) × Unit))) × ((Int × (Int × (Int × (Bool × (Int × (Int × (Int × (Bool × Unit)))))))) × (Bool × (Int × (Int × Unit)))))) (h :
    cond ((a1_0 == (0 : Int))) (
      optAll (port_Send.R a0_0 a0_1 a0_2 a1_1 a1_2 a1_3 a1_4 a1_5 a1_6 a1_7 a1_8) fun (c0 : ((Int × (Int × (List (List DV) × Unit))) × ((Int × (Int × (Int × (Bool × (Int × (Int × (Int × (Bool × Unit)))))))) × (Bool × (Int × Unit))))) =>
      optAll (law16_num.R ((((c0).2).2).2).1) fun (c1 : (Int × Unit)) =>
      c = ((((c0).1).1, ((((c0).1).2).1, (((((c0).1).2).2).1, ()))), (((((c0).2).1).1, (((((c0).2).1).2).1, ((((((c0).2).1).2).2).1, (((((((c0).2).1).2).2).2).1, ((((((((c0).2).1).2).2).2).2).1, (((((((((c0).2).1).2).2).2).2).2).1, ((((((((((c0).2).1).2).2).2).2).2).2).1, (((((((((((c0).2).1).2).2).2).2).2).2).2).1, ())))))))), ((((c0).2).2).1, ((0 : Int), ((c1).1, ())))))) (
      cond ((a1_0 == (1 : Int))) (
        optAll (port_Recv.R a0_0 a0_1 a0_2 a1_1 a1_2 a1_3 a1_4 a1_5 a1_6 a1_7 a1_8) fun (c2 : ((Int × (Int × (List (List DV) × Unit))) × ((Int × (Int × (Int × (Bool × (Int × (Int × (Int × (Bool × Unit)))))))) × (Bool × (Int × Unit))))) =>
        optAll (law16_num.R ((((c2).2).2).2).1) fun (c3 : (Int × Unit)) =>
        c = ((((c2).1).1, ((((c2).1).2).1, (((((c2).1).2).2).1, ()))), (((((c2).2).1).1, (((((c2).2).1).2).1, ((((((c2).2).1).2).2).1, (((((((c2).2).1).2).2).2).1, ((((((((c2).2).1).2).2).2).2).1, (((((((((c2).2).1).2).2).2).2).2).1, ((((((((((c2).2).1).2).2).2).2).2).2).1, (((((((((((c2).2).1).2).2).2).2).2).2).2).1, ())))))))), ((((c2).2).2).1, ((0 : Int), ((c3).1, ())))))) (
        cond ((a1_0 == (2 : Int))) (
          optAll (port_Signal.R a0_0 a0_1 a0_2 a1_9) fun (c4 : ((Int × (Int × (List (List DV) × Unit))) × ((Int × (Int × (Int × (Bool × (Int × (Int × (Int × (Bool × Unit)))))))) × (Bool × Unit)))) =>
          c = ((((c4).1).1, ((((c4).1).2).1, (((((c4).1).2).2).1, ()))), (((((c4).2).1).1, (((((c4).2).1).2).1, ((((((c4).2).1).2).2).1, (((((((c4).2).1).2).2).2).1, ((((((((c4).2).1).2).2).2).2).1, (((((((((c4).2).1).2).2).2).2).2).1, ((((((((((c4).2).1).2).2).2).2).2).2).1, (((((((((((c4).2).1).2).2).2).2).2).2).2).1, ())))))))), ((((c4).2).2).1, ((0 : Int), ((0 : Int), ())))))) (
          cond ((a1_0 == (3 : Int))) (
            optAll (port_Wait.R a0_0 a0_1 a0_2 a1_1) fun (c5 : ((Int × (Int × (List (List DV) × Unit))) × (Int × (Int × Unit)))) =>
            optAll (law16_num.R (((c5).2).2).1) fun (c6 : (Int × Unit)) =>
            c = ((((c5).1).1, ((((c5).1).2).1, (((((c5).1).2).2).1, ()))), (((0 : Int), ((0 : Int), ((0 : Int), (false, ((0 : Int), ((0 : Int), ((0 : Int), (false, ())))))))), (false, (((c5).2).1, ((c6).1, ())))))) (
            optAll (port_Drop.R a0_0 a0_1 a0_2 a1_1) fun (c7 : ((Int × (Int × (List (List DV) × Unit))) × (Bool × Unit))) =>
            c = ((((c7).1).1, ((((c7).1).2).1, (((((c7).1).2).2).1, ()))), (((0 : Int), ((0 : Int), ((0 : Int), (false, ((0 : Int), ((0 : Int), ((0 : Int), (false, ())))))))), (((c7).2).1, ((0 : Int), ((0 : Int), ())))))))))) : R a0_0 a0_1 a0_2 a1_0 a1_1 a1_2 a1_3 a1_4 a1_5 a1_6 a1_7 a1_8 a1_9 = some c := start_rule (n := 400) (lv := lv) (noSum_ok _) (by kernel_rfl) h
end law16_does
/-! garrison/garrisonlaw16.model -/
namespace law16_model
def lv : Live := []
theorem start (a0_0 : Int) (a0_1 : Int) (a0_2 : List (List DV)) (a1_0 : Int) (a1_1 : Int) (a1_2 : Int) (a1_3 : Int) (a1_4 : Bool) (a1_5 : Int) (a1_6 : Int) (a1_7 : Int) (a1_8 : Bool) (a1_9 : Int) (c : ((Int × (Int × (List (List DV) × Unit))) × ((Int × (Int × (Int × (Bool × (Int × (Int × (Int × (Bool × Unit)))))))) × (Bool × (Int × (Int × Unit)))))) (h :
    cond ((a1_0 == (0 : Int))) (
      optAll (ref16_Send.R a0_0 a0_1 a0_2 a1_1 a1_2 a1_3 a1_4 a1_5 a1_6 a1_7 a1_8) fun (c0 : ((Int × (Int × (List (List DV) × Unit))) × ((Int × (Int × (Int × (Bool × (Int × (Int × (Int × (Bool × Unit)))))))) × (Bool × (Int × Unit))))) =>
      c = ((((c0).1).1, ((((c0).1).2).1, (((((c0).1).2).2).1, ()))), (((((c0).2).1).1, (((((c0).2).1).2).1, ((((((c0).2).1).2).2).1, (((((((c0).2).1).2).2).2).1, ((((((((c0).2).1).2).2).2).2).1, (((((((((c0).2).1).2).2).2).2).2).1, ((((((((((c0).2).1).2).2).2).2).2).2).1, (((((((((((c0).2).1).2).2).2).2).2).2).2).1, ())))))))), ((((c0).2).2).1, ((0 : Int), (((((c0).2).2).2).1, ())))))) (
      cond ((a1_0 == (1 : Int))) (
        optAll (ref16_Recv.R a0_0 a0_1 a0_2 a1_1 a1_2 a1_3 a1_4 a1_5 a1_6 a1_7 a1_8) fun (c1 : ((Int × (Int × (List (List DV) × Unit))) × ((Int × (Int × (Int × (Bool × (Int × (Int × (Int × (Bool × Unit)))))))) × (Bool × (Int × Unit))))) =>
        c = ((((c1).1).1, ((((c1).1).2).1, (((((c1).1).2).2).1, ()))), (((((c1).2).1).1, (((((c1).2).1).2).1, ((((((c1).2).1).2).2).1, (((((((c1).2).1).2).2).2).1, ((((((((c1).2).1).2).2).2).2).1, (((((((((c1).2).1).2).2).2).2).2).1, ((((((((((c1).2).1).2).2).2).2).2).2).1, (((((((((((c1).2).1).2).2).2).2).2).2).2).1, ())))))))), ((((c1).2).2).1, ((0 : Int), (((((c1).2).2).2).1, ())))))) (
        cond ((a1_0 == (2 : Int))) (
          optAll (ref16_Signal.R a0_0 a0_1 a0_2 a1_9) fun (c2 : ((Int × (Int × (List (List DV) × Unit))) × ((Int × (Int × (Int × (Bool × (Int × (Int × (Int × (Bool × Unit)))))))) × (Bool × Unit)))) =>
          c = ((((c2).1).1, ((((c2).1).2).1, (((((c2).1).2).2).1, ()))), (((((c2).2).1).1, (((((c2).2).1).2).1, ((((((c2).2).1).2).2).1, (((((((c2).2).1).2).2).2).1, ((((((((c2).2).1).2).2).2).2).1, (((((((((c2).2).1).2).2).2).2).2).1, ((((((((((c2).2).1).2).2).2).2).2).2).1, (((((((((((c2).2).1).2).2).2).2).2).2).2).1, ())))))))), ((((c2).2).2).1, ((0 : Int), ((0 : Int), ())))))) (
          cond ((a1_0 == (3 : Int))) (
            optAll (ref16_Wait.R a0_0 a0_1 a0_2 a1_1) fun (c3 : ((Int × (Int × (List (List DV) × Unit))) × (Int × (Int × Unit)))) =>
            c = ((((c3).1).1, ((((c3).1).2).1, (((((c3).1).2).2).1, ()))), (((0 : Int), ((0 : Int), ((0 : Int), (false, ((0 : Int), ((0 : Int), ((0 : Int), (false, ())))))))), (false, (((c3).2).1, ((((c3).2).2).1, ())))))) (
            optAll (ref16_Drop.R a0_0 a0_1 a0_2 a1_1) fun (c4 : ((Int × (Int × (List (List DV) × Unit))) × (Bool × Unit))) =>
            c = ((((c4).1).1, ((((c4).1).2).1, (((((c4).1).2).2).1, ()))), (((0 : Int), ((0 : Int), ((0 : Int), (false, ((0 : Int), ((0 : Int), ((0 : Int), (false, ())))))))), (((c4).2).1, ((0 : Int), ((0 : Int), ())))))))))) : R a0_0 a0_1 a0_2 a1_0 a1_1 a1_2 a1_3 a1_4 a1_5 a1_6 a1_7 a1_8 a1_9 = some c := start_rule (n := 400) (lv := lv) (noSum_ok _) (by kernel_rfl) h
end law16_model
/-! garrison/garrisonref16.Same -/
namespace ref16_Same
def lv : Live := [((5, 1048576), [2, 3, 5], [45, 61])]
abbrev H5 (x5 : Int) (b45 : Int) (b45_1 : Int) (b45_2 : List (List DV)) (b61 : Int) (b61_1 : Int) (b61_2 : List (List DV)) (c : (Bool × Unit)) : Prop := HeadAns cfg 12 sh lv (bd cfg 12 [1, 1, 0, 1, 0, 0]) 1048576 [.inBlock 0, .code (bd cfg 12 [1, 1, 1])]
  [(AV.ptr 45 0 0 0), (AV.ptr 61 0 0 0), (AV.d (DV.v (Value.int IntKind.i64 x5)))] [(Option.some (VBlk.cell 3 0 [(AV.d (DV.v (Value.int IntKind.i64 b45))), (AV.d (DV.v (Value.int IntKind.i64 b45_1))), (AV.d (DV.lst 8 b45_2))])), (Option.some (VBlk.cell 3 0 [(AV.d (DV.v (Value.int IntKind.i64 b61))), (AV.d (DV.v (Value.int IntKind.i64 b61_1))), (AV.d (DV.lst 8 b61_2))]))] 1048576 c
theorem start (a0_0 : Int) (a0_1 : Int) (a0_2 : List (List DV)) (a1_0 : Int) (a1_1 : Int) (a1_2 : List (List DV)) (c : (Bool × Unit)) (h :
    cond ((a0_0 != a1_0)) (
      c = (false, ())) (
      cond ((a0_1 != a1_1)) (
        c = (false, ())) (
        cond (((((a0_2).length : Nat) : Int) != (((a1_2).length : Nat) : Int))) (
          c = (false, ())) (
          H5 (0 : Int) a0_0 a0_1 a0_2 a1_0 a1_1 a1_2 c)))) : R a0_0 a0_1 a0_2 a1_0 a1_1 a1_2 = some c := start_rule (n := 400) (lv := lv) (noSum_ok _) (by kernel_rfl) h
theorem H5_step (x5 : Int) (b45 : Int) (b45_1 : Int) (b45_2 : List (List DV)) (b61 : Int) (b61_1 : Int) (b61_2 : List (List DV)) (c : (Bool × Unit)) (h :
    cond (decide ((x5 < (((b45_2).length : Nat) : Int)))) (
      needs ((0 : Int) ≤ x5) (
      optAll ((b45_2)[(Int.toNat x5)]?) fun (r0 : List DV) =>
      optAll ((dInt IntKind.i64 r0 0)) fun (z1 : Int) =>
      optAll ((dInt IntKind.i64 r0 1)) fun (z2 : Int) =>
      optAll ((dInt IntKind.i64 r0 2)) fun (z3 : Int) =>
      optAll ((dBool r0 3)) fun (z4 : Bool) =>
      optAll ((dInt IntKind.i64 r0 4)) fun (z5 : Int) =>
      optAll ((dInt IntKind.i64 r0 5)) fun (z6 : Int) =>
      optAll ((dInt IntKind.i64 r0 6)) fun (z7 : Int) =>
      optAll ((dBool r0 7)) fun (z8 : Bool) =>
      needs ((0 : Int) ≤ x5) (
      optAll ((b61_2)[(Int.toNat x5)]?) fun (r9 : List DV) =>
      optAll ((dInt IntKind.i64 r9 0)) fun (z10 : Int) =>
      optAll ((dInt IntKind.i64 r9 1)) fun (z11 : Int) =>
      optAll ((dInt IntKind.i64 r9 2)) fun (z12 : Int) =>
      optAll ((dBool r9 3)) fun (z13 : Bool) =>
      optAll ((dInt IntKind.i64 r9 4)) fun (z14 : Int) =>
      optAll ((dInt IntKind.i64 r9 5)) fun (z15 : Int) =>
      optAll ((dInt IntKind.i64 r9 6)) fun (z16 : Int) =>
      optAll ((dBool r9 7)) fun (z17 : Bool) =>
      cond ((!((z1 == z10) && ((z2 == z11) && ((z3 == z12) && ((z4 == z13) && ((z5 == z14) && ((z6 == z15) && ((z7 == z16) && ((z8 == z17) && true)))))))))) (
        c = (false, ())) (
        H5 (IntKind.i64.wrap (x5 + (1 : Int))) b45 b45_1 b45_2 b61 b61_1 b61_2 c)))) (
      c = (true, ()))) : H5 x5 b45 b45_1 b45_2 b61 b61_1 b61_2 c := head_rule (n := 400) (noSum_ok _) (by kernel_rfl) h
end ref16_Same
/-! garrison/port.Check -/
namespace port_Check
def lv : Live := []
theorem start (a0_0 : Int) (a0_1 : Int) (a0_2 : List (List DV)) (c : (Int × Unit)) (h :
    cond (decide ((a0_0 < (0 : Int)))) (
      c = ((2 : Int), ())) (
      cond (decide ((a0_0 > (2 : Int)))) (
        c = ((2 : Int), ())) (
        cond ((!((a0_0 == (0 : Int)) == ((((a0_2).length : Nat) : Int) == (0 : Int))))) (
          c = ((2 : Int), ())) (
          cond ((a0_0 != (0 : Int))) (
            cond ((a0_1 != (0 : Int))) (
              c = ((2 : Int), ())) (
              optAll (slices_ContainsFunc_api_Waiter_api_Waiter__port_Check_1.R a0_2 [[(DV.v (Value.bool false)), (DV.v (Value.bool false)), (DV.v (Value.bool false)), (DV.v (Value.bool false)), (DV.v (Value.bool false)), (DV.v (Value.bool false)), (DV.v (Value.bool false)), (DV.v (Value.bool false)), (DV.v (Value.bool false)), (DV.v (Value.bool false)), (DV.v (Value.bool false)), (DV.v (Value.bool false)), (DV.v (Value.bool false)), (DV.v (Value.bool false)), (DV.v (Value.bool false)), (DV.v (Value.bool false)), (DV.v (Value.bool false)), (DV.v (Value.bool false)), (DV.v (Value.bool false)), (DV.v (Value.bool false)), (DV.v (Value.bool false)), (DV.v (Value.bool false)), (DV.v (Value.bool false)), (DV.v (Value.bool false)), (DV.v (Value.bool false)), (DV.v (Value.bool false)), (DV.v (Value.bool false)), (DV.v (Value.bool false)), (DV.v (Value.bool false)), (DV.v (Value.bool false)), (DV.v (Value.bool false)), (DV.v (Value.bool false)), (DV.v (Value.bool false)), (DV.v (Value.bool false)), (DV.v (Value.bool false)), (DV.v (Value.bool false)), (DV.v (Value.bool false)), (DV.v (Value.bool false)), (DV.v (Value.bool false)), (DV.v (Value.bool false)), (DV.v (Value.bool false)), (DV.v (Value.bool false)), (DV.v (Value.bool false)), (DV.v (Value.bool false)), (DV.v (Value.bool false)), (DV.v (Value.bool false)), (DV.v (Value.bool false)), (DV.v (Value.bool false)), (DV.v (Value.bool false)), (DV.v (Value.bool false)), (DV.v (Value.bool false)), (DV.v (Value.bool false)), (DV.v (Value.bool false)), (DV.v (Value.bool false)), (DV.v (Value.bool false)), (DV.v (Value.bool false)), (DV.v (Value.bool false)), (DV.v (Value.bool false)), (DV.v (Value.bool false)), (DV.v (Value.bool false)), (DV.v (Value.bool false)), (DV.v (Value.bool false)), (DV.v (Value.bool false)), (DV.v (Value.bool false))]]) fun (c0 : (Bool × Unit)) =>
              cond ((c0).1) (
                c = ((2 : Int), ())) (
                c = ((0 : Int), ())))) (
            optAll (slices_ContainsFunc_api_Waiter_api_Waiter__port_Check_1.R a0_2 [[(DV.v (Value.bool false)), (DV.v (Value.bool false)), (DV.v (Value.bool false)), (DV.v (Value.bool false)), (DV.v (Value.bool false)), (DV.v (Value.bool false)), (DV.v (Value.bool false)), (DV.v (Value.bool false)), (DV.v (Value.bool false)), (DV.v (Value.bool false)), (DV.v (Value.bool false)), (DV.v (Value.bool false)), (DV.v (Value.bool false)), (DV.v (Value.bool false)), (DV.v (Value.bool false)), (DV.v (Value.bool false)), (DV.v (Value.bool false)), (DV.v (Value.bool false)), (DV.v (Value.bool false)), (DV.v (Value.bool false)), (DV.v (Value.bool false)), (DV.v (Value.bool false)), (DV.v (Value.bool false)), (DV.v (Value.bool false)), (DV.v (Value.bool false)), (DV.v (Value.bool false)), (DV.v (Value.bool false)), (DV.v (Value.bool false)), (DV.v (Value.bool false)), (DV.v (Value.bool false)), (DV.v (Value.bool false)), (DV.v (Value.bool false)), (DV.v (Value.bool false)), (DV.v (Value.bool false)), (DV.v (Value.bool false)), (DV.v (Value.bool false)), (DV.v (Value.bool false)), (DV.v (Value.bool false)), (DV.v (Value.bool false)), (DV.v (Value.bool false)), (DV.v (Value.bool false)), (DV.v (Value.bool false)), (DV.v (Value.bool false)), (DV.v (Value.bool false)), (DV.v (Value.bool false)), (DV.v (Value.bool false)), (DV.v (Value.bool false)), (DV.v (Value.bool false)), (DV.v (Value.bool false)), (DV.v (Value.bool false)), (DV.v (Value.bool false)), (DV.v (Value.bool false)), (DV.v (Value.bool false)), (DV.v (Value.bool false)), (DV.v (Value.bool false)), (DV.v (Value.bool false)), (DV.v (Value.bool false)), (DV.v (Value.bool false)), (DV.v (Value.bool false)), (DV.v (Value.bool false)), (DV.v (Value.bool false)), (DV.v (Value.bool false)), (DV.v (Value.bool false)), (DV.v (Value.bool false))]]) fun (c1 : (Bool × Unit)) =>
            cond ((c1).1) (
              c = ((2 : Int), ())) (
              c = ((0 : Int), ()))))))) : R a0_0 a0_1 a0_2 = some c := start_rule (n := 400) (lv := lv) (noSum_ok _) (by kernel_rfl) h
end port_Check
/-! garrison/garrisonlaw16.num -/
namespace law16_num
def lv : Live := []
theorem start (a0 : Int) (c : (Int × Unit)) (h :
    c = (a0, ())) : R a0 = some c := start_rule (n := 400) (lv := lv) (noSum_ok _) (by kernel_rfl) h
end law16_num
/-! garrison/port.Signal -/
namespace port_Signal
def lv : Live := []
theorem start (a0_0 : Int) (a0_1 : Int) (a0_2 : List (List DV)) (a1 : Int) (c : ((Int × (Int × (List (List DV) × Unit))) × ((Int × (Int × (Int × (Bool × (Int × (Int × (Int × (Bool × Unit)))))))) × (Bool × Unit)))) (h :
    optAll (port_Check.R a0_0 a0_1 a0_2) fun (c0 : (Int × Unit)) =>
    cond (((c0).1 != (0 : Int))) (
      c = ((a0_0, (a0_1, (a0_2, ()))), (((0 : Int), ((0 : Int), ((0 : Int), (false, ((0 : Int), ((0 : Int), ((0 : Int), (false, ())))))))), (false, ())))) (
      cond ((a0_0 == (2 : Int))) (
        optAll (port_leave.R a0_0 a0_1 a0_2 (0 : Int)) fun (c1 : ((Int × (Int × (List (List DV) × Unit))) × ((Int × (Int × (Int × (Bool × (Int × (Int × (Int × (Bool × Unit)))))))) × Unit))) =>
        c = ((((c1).1).1, ((((c1).1).2).1, (((((c1).1).2).2).1, ()))), (((((c1).2).1).1, (a1, ((((((c1).2).1).2).2).1, (((((((c1).2).1).2).2).2).1, ((((((((c1).2).1).2).2).2).2).1, (((((((((c1).2).1).2).2).2).2).2).1, ((((((((((c1).2).1).2).2).2).2).2).2).1, (((((((((((c1).2).1).2).2).2).2).2).2).2).1, ())))))))), (true, ())))) (
        cond ((a0_0 == (0 : Int))) (
          c = ((a0_0, ((IntKind.i64.wrap (((BitVec.toNat ((BitVec.ofInt 64 a0_1) ||| (BitVec.ofInt 64 a1))) : Nat) : Int)), (a0_2, ()))), (((0 : Int), ((0 : Int), ((0 : Int), (false, ((0 : Int), ((0 : Int), ((0 : Int), (false, ())))))))), (false, ())))) (
          c = ((a0_0, (a0_1, (a0_2, ()))), (((0 : Int), ((0 : Int), ((0 : Int), (false, ((0 : Int), ((0 : Int), ((0 : Int), (false, ())))))))), (false, ()))))))) : R a0_0 a0_1 a0_2 a1 = some c := start_rule (n := 400) (lv := lv) (noSum_ok _) (by kernel_rfl) h
end port_Signal
/-! garrison/port.Wait -/
namespace port_Wait
def lv : Live := []
theorem start (a0_0 : Int) (a0_1 : Int) (a0_2 : List (List DV)) (a1 : Int) (c : ((Int × (Int × (List (List DV) × Unit))) × (Int × (Int × Unit)))) (h :
    optAll (port_begin.R a0_0 a0_1 a0_2 a1) fun (c0 : (Int × Unit)) =>
    cond (((c0).1 != (0 : Int))) (
      c = ((a0_0, (a0_1, (a0_2, ()))), ((0 : Int), ((c0).1, ())))) (
      cond ((a0_1 != (0 : Int))) (
        c = ((a0_0, ((0 : Int), (a0_2, ()))), (a0_1, ((0 : Int), ())))) (
        optAll (port_join.R a0_0 a0_1 a0_2 (2 : Int) a1 (0 : Int) (0 : Int) false (0 : Int) (0 : Int) (0 : Int) false) fun (c1 : ((Int × (Int × (List (List DV) × Unit))) × Unit)) =>
        c = ((((c1).1).1, ((((c1).1).2).1, (((((c1).1).2).2).1, ()))), ((0 : Int), ((0 : Int), ())))))) : R a0_0 a0_1 a0_2 a1 = some c := start_rule (n := 400) (lv := lv) (noSum_ok _) (by kernel_rfl) h
end port_Wait
/-! garrison/port.Drop -/
namespace port_Drop
def lv : Live := []
theorem start (a0_0 : Int) (a0_1 : Int) (a0_2 : List (List DV)) (a1 : Int) (c : ((Int × (Int × (List (List DV) × Unit))) × (Bool × Unit))) (h :
    optAll (port_at.R a0_0 a0_1 a0_2 a1) fun (c0 : (Int × Unit)) =>
    cond (decide (((c0).1 < (0 : Int)))) (
      c = ((a0_0, (a0_1, (a0_2, ()))), (false, ()))) (
      optAll (port_leave.R a0_0 a0_1 a0_2 (c0).1) fun (c1 : ((Int × (Int × (List (List DV) × Unit))) × ((Int × (Int × (Int × (Bool × (Int × (Int × (Int × (Bool × Unit)))))))) × Unit))) =>
      c = ((((c1).1).1, ((((c1).1).2).1, (((((c1).1).2).2).1, ()))), (true, ())))) : R a0_0 a0_1 a0_2 a1 = some c := start_rule (n := 400) (lv := lv) (noSum_ok _) (by kernel_rfl) h
end port_Drop
/-! garrison/port.Send -/
namespace port_Send
def lv : Live := []
theorem start (a0_0 : Int) (a0_1 : Int) (a0_2 : List (List DV)) (a1_0 : Int) (a1_1 : Int) (a1_2 : Int) (a1_3 : Bool) (a1_4 : Int) (a1_5 : Int) (a1_6 : Int) (a1_7 : Bool) (c : ((Int × (Int × (List (List DV) × Unit))) × ((Int × (Int × (Int × (Bool × (Int × (Int × (Int × (Bool × Unit)))))))) × (Bool × (Int × Unit))))) (h :
    optAll (port_meet.R a0_0 a0_1 a0_2 a1_0 a1_1 a1_2 a1_3 a1_4 a1_5 a1_6 a1_7 (2 : Int) (1 : Int)) fun (c0 : ((Int × (Int × (List (List DV) × Unit))) × ((Int × (Int × (Int × (Bool × (Int × (Int × (Int × (Bool × Unit)))))))) × (Bool × (Int × Unit))))) =>
    c = ((((c0).1).1, ((((c0).1).2).1, (((((c0).1).2).2).1, ()))), (((((c0).2).1).1, (((((c0).2).1).2).1, ((((((c0).2).1).2).2).1, (((((((c0).2).1).2).2).2).1, ((((((((c0).2).1).2).2).2).2).1, (((((((((c0).2).1).2).2).2).2).2).1, ((((((((((c0).2).1).2).2).2).2).2).2).1, (((((((((((c0).2).1).2).2).2).2).2).2).2).1, ())))))))), ((((c0).2).2).1, (((((c0).2).2).2).1, ()))))) : R a0_0 a0_1 a0_2 a1_0 a1_1 a1_2 a1_3 a1_4 a1_5 a1_6 a1_7 = some c := start_rule (n := 400) (lv := lv) (noSum_ok _) (by kernel_rfl) h
end port_Send
/-! garrison/port.Recv -/
namespace port_Recv
def lv : Live := []
theorem start (a0_0 : Int) (a0_1 : Int) (a0_2 : List (List DV)) (a1_0 : Int) (a1_1 : Int) (a1_2 : Int) (a1_3 : Bool) (a1_4 : Int) (a1_5 : Int) (a1_6 : Int) (a1_7 : Bool) (c : ((Int × (Int × (List (List DV) × Unit))) × ((Int × (Int × (Int × (Bool × (Int × (Int × (Int × (Bool × Unit)))))))) × (Bool × (Int × Unit))))) (h :
    optAll (port_meet.R a0_0 a0_1 a0_2 a1_0 a1_1 a1_2 a1_3 a1_4 a1_5 a1_6 a1_7 (1 : Int) (2 : Int)) fun (c0 : ((Int × (Int × (List (List DV) × Unit))) × ((Int × (Int × (Int × (Bool × (Int × (Int × (Int × (Bool × Unit)))))))) × (Bool × (Int × Unit))))) =>
    c = ((((c0).1).1, ((((c0).1).2).1, (((((c0).1).2).2).1, ()))), (((((c0).2).1).1, (((((c0).2).1).2).1, ((((((c0).2).1).2).2).1, (((((((c0).2).1).2).2).2).1, ((((((((c0).2).1).2).2).2).2).1, (((((((((c0).2).1).2).2).2).2).2).1, ((((((((((c0).2).1).2).2).2).2).2).2).1, (((((((((((c0).2).1).2).2).2).2).2).2).2).1, ())))))))), ((((c0).2).2).1, (((((c0).2).2).2).1, ()))))) : R a0_0 a0_1 a0_2 a1_0 a1_1 a1_2 a1_3 a1_4 a1_5 a1_6 a1_7 = some c := start_rule (n := 400) (lv := lv) (noSum_ok _) (by kernel_rfl) h
end port_Recv
/-! garrison/port.Same -/
namespace port_Same
def lv : Live := []
theorem start (a0_0 : Int) (a0_1 : Int) (a0_2 : List (List DV)) (a1_0 : Int) (a1_1 : Int) (a1_2 : List (List DV)) (c : (Bool × Unit)) (h :
    cond ((a0_0 == a1_0)) (
      cond ((a0_1 == a1_1)) (
        optAll (slices_Equal_api_Waiter_api_Waiter.R a0_2 a1_2) fun (c0 : (Bool × Unit)) =>
        c = ((c0).1, ())) (
        c = (false, ()))) (
      c = (false, ()))) : R a0_0 a0_1 a0_2 a1_0 a1_1 a1_2 = some c := start_rule (n := 400) (lv := lv) (noSum_ok _) (by kernel_rfl) h
end port_Same
/-! garrison/garrisonlaw16.who -/
namespace law16_who
def lv : Live := []
theorem start (a0 : Int) (c : ((Int × (Int × (Int × (Bool × (Int × (Int × (Int × (Bool × Unit)))))))) × Unit)) (h :
    c = ((a0, (a0, ((0 : Int), (false, ((0 : Int), ((0 : Int), ((0 : Int), (false, ())))))))), ())) : R a0 = some c := start_rule (n := 400) (lv := lv) (noSum_ok _) (by kernel_rfl) h
end law16_who
/-! garrison/garrisonref16.Send -/
namespace ref16_Send
def lv : Live := []
theorem start (a0_0 : Int) (a0_1 : Int) (a0_2 : List (List DV)) (a1_0 : Int) (a1_1 : Int) (a1_2 : Int) (a1_3 : Bool) (a1_4 : Int) (a1_5 : Int) (a1_6 : Int) (a1_7 : Bool) (c : ((Int × (Int × (List (List DV) × Unit))) × ((Int × (Int × (Int × (Bool × (Int × (Int × (Int × (Bool × Unit)))))))) × (Bool × (Int × Unit))))) (h :
    optAll (ref16_meet.R a0_0 a0_1 a0_2 a1_0 a1_1 a1_2 a1_3 a1_4 a1_5 a1_6 a1_7 (1 : Int)) fun (c0 : ((Int × (Int × (List (List DV) × Unit))) × ((Int × (Int × (Int × (Bool × (Int × (Int × (Int × (Bool × Unit)))))))) × (Bool × (Int × Unit))))) =>
    c = ((((c0).1).1, ((((c0).1).2).1, (((((c0).1).2).2).1, ()))), (((((c0).2).1).1, (((((c0).2).1).2).1, ((((((c0).2).1).2).2).1, (((((((c0).2).1).2).2).2).1, ((((((((c0).2).1).2).2).2).2).1, (((((((((c0).2).1).2).2).2).2).2).1, ((((((((((c0).2).1).2).2).2).2).2).2).1, (((((((((((c0).2).1).2).2).2).2).2).2).2).1, ())))))))), ((((c0).2).2).1, (((((c0).2).2).2).1, ()))))) : R a0_0 a0_1 a0_2 a1_0 a1_1 a1_2 a1_3 a1_4 a1_5 a1_6 a1_7 = some c := start_rule (n := 400) (lv := lv) (noSum_ok _) (by kernel_rfl) h
end ref16_Send
/-! garrison/garrisonref16.Recv -/
namespace ref16_Recv
def lv : Live := []
theorem start (a0_0 : Int) (a0_1 : Int) (a0_2 : List (List DV)) (a1_0 : Int) (a1_1 : Int) (a1_2 : Int) (a1_3 : Bool) (a1_4 : Int) (a1_5 : Int) (a1_6 : Int) (a1_7 : Bool) (c : ((Int × (Int × (List (List DV) × Unit))) × ((Int × (Int × (Int × (Bool × (Int × (Int × (Int × (Bool × Unit)))))))) × (Bool × (Int × Unit))))) (h :
    optAll (ref16_meet.R a0_0 a0_1 a0_2 a1_0 a1_1 a1_2 a1_3 a1_4 a1_5 a1_6 a1_7 (2 : Int)) fun (c0 : ((Int × (Int × (List (List DV) × Unit))) × ((Int × (Int × (Int × (Bool × (Int × (Int × (Int × (Bool × Unit)))))))) × (Bool × (Int × Unit))))) =>
    c = ((((c0).1).1, ((((c0).1).2).1, (((((c0).1).2).2).1, ()))), (((((c0).2).1).1, (((((c0).2).1).2).1, ((((((c0).2).1).2).2).1, (((((((c0).2).1).2).2).2).1, ((((((((c0).2).1).2).2).2).2).1, (((((((((c0).2).1).2).2).2).2).2).1, ((((((((((c0).2).1).2).2).2).2).2).2).1, (((((((((((c0).2).1).2).2).2).2).2).2).2).1, ())))))))), ((((c0).2).2).1, (((((c0).2).2).2).1, ()))))) : R a0_0 a0_1 a0_2 a1_0 a1_1 a1_2 a1_3 a1_4 a1_5 a1_6 a1_7 = some c := start_rule (n := 400) (lv := lv) (noSum_ok _) (by kernel_rfl) h
end ref16_Recv
/-! garrison/garrisonref16.Signal -/
namespace ref16_Signal
def lv : Live := []
theorem start (a0_0 : Int) (a0_1 : Int) (a0_2 : List (List DV)) (a1 : Int) (c : ((Int × (Int × (List (List DV) × Unit))) × ((Int × (Int × (Int × (Bool × (Int × (Int × (Int × (Bool × Unit)))))))) × (Bool × Unit)))) (h :
    optAll (ref16_Is.R a0_0 a0_1 a0_2) fun (c0 : (Bool × Unit)) =>
    cond ((!(c0).1)) (
      c = ((a0_0, (a0_1, (a0_2, ()))), (((0 : Int), ((0 : Int), ((0 : Int), (false, ((0 : Int), ((0 : Int), ((0 : Int), (false, ())))))))), (false, ())))) (
      cond ((a0_0 == (2 : Int))) (
        optAll ((a0_2)[0]?) fun (r1 : List DV) =>
        optAll ((dInt IntKind.i64 r1 0)) fun (z2 : Int) =>
        optAll ((dInt IntKind.i64 r1 1)) fun (z3 : Int) =>
        optAll ((dInt IntKind.i64 r1 2)) fun (z4 : Int) =>
        optAll ((dBool r1 3)) fun (z5 : Bool) =>
        optAll ((dInt IntKind.i64 r1 4)) fun (z6 : Int) =>
        optAll ((dInt IntKind.i64 r1 5)) fun (z7 : Int) =>
        optAll ((dInt IntKind.i64 r1 6)) fun (z8 : Int) =>
        optAll ((dBool r1 7)) fun (z9 : Bool) =>
        optAll (ref16_without.R a0_0 a0_1 a0_2 (0 : Int)) fun (c10 : ((Int × (Int × (List (List DV) × Unit))) × Unit)) =>
        c = ((((c10).1).1, ((((c10).1).2).1, (((((c10).1).2).2).1, ()))), ((z2, (a1, (z4, (z5, (z6, (z7, (z8, (z9, ())))))))), (true, ())))) (
        cond ((a0_0 == (0 : Int))) (
          c = ((a0_0, ((IntKind.i64.wrap (((BitVec.toNat ((BitVec.ofInt 64 a0_1) ||| (BitVec.ofInt 64 a1))) : Nat) : Int)), (a0_2, ()))), (((0 : Int), ((0 : Int), ((0 : Int), (false, ((0 : Int), ((0 : Int), ((0 : Int), (false, ())))))))), (false, ())))) (
          c = ((a0_0, (a0_1, (a0_2, ()))), (((0 : Int), ((0 : Int), ((0 : Int), (false, ((0 : Int), ((0 : Int), ((0 : Int), (false, ())))))))), (false, ()))))))) : R a0_0 a0_1 a0_2 a1 = some c := start_rule (n := 400) (lv := lv) (noSum_ok _) (by kernel_rfl) h
end ref16_Signal
/-! garrison/garrisonref16.Wait -/
namespace ref16_Wait
def lv : Live := []
theorem start (a0_0 : Int) (a0_1 : Int) (a0_2 : List (List DV)) (a1 : Int) (c : ((Int × (Int × (List (List DV) × Unit))) × (Int × (Int × Unit)))) (h :
    optAll (ref16_Is.R a0_0 a0_1 a0_2) fun (c0 : (Bool × Unit)) =>
    cond ((!(c0).1)) (
      c = ((a0_0, (a0_1, (a0_2, ()))), ((0 : Int), ((2 : Int), ())))) (
      optAll (ref16_core.R a1) fun (c1 : (Bool × Unit)) =>
      cond ((!(c1).1)) (
        c = ((a0_0, (a0_1, (a0_2, ()))), ((0 : Int), ((2 : Int), ())))) (
        optAll (ref16_find.R a0_0 a0_1 a0_2 a1) fun (c2 : (Int × Unit)) =>
        cond (decide (((c2).1 ≥ (0 : Int)))) (
          c = ((a0_0, (a0_1, (a0_2, ()))), ((0 : Int), ((8 : Int), ())))) (
          cond ((a0_1 != (0 : Int))) (
            c = ((a0_0, ((0 : Int), (a0_2, ()))), (a0_1, ((0 : Int), ())))) (
            needs ((((a0_2).length * 64) ≤ 140737488355328) ∧ (((a0_2).length * 8) ≤ 140737488355328)) (
            needs ((a0_2).length = (a0_2).length) (
            needs (((((a0_2 ++ (([[(DV.v (Value.int IntKind.i64 a1)), (DV.v (Value.int IntKind.i64 (0 : Int))), (DV.v (Value.int IntKind.i64 (0 : Int))), (DV.v (Value.bool false)), (DV.v (Value.int IntKind.i64 (0 : Int))), (DV.v (Value.int IntKind.i64 (0 : Int))), (DV.v (Value.int IntKind.i64 (0 : Int))), (DV.v (Value.bool false))]]).take (1)))).length * 64) ≤ 140737488355328) ∧ ((((a0_2 ++ (([[(DV.v (Value.int IntKind.i64 a1)), (DV.v (Value.int IntKind.i64 (0 : Int))), (DV.v (Value.int IntKind.i64 (0 : Int))), (DV.v (Value.bool false)), (DV.v (Value.int IntKind.i64 (0 : Int))), (DV.v (Value.int IntKind.i64 (0 : Int))), (DV.v (Value.int IntKind.i64 (0 : Int))), (DV.v (Value.bool false))]]).take (1)))).length * 8) ≤ 140737488355328)) (
            c = (((2 : Int), (a0_1, ((((a0_2 ++ (([[(DV.v (Value.int IntKind.i64 a1)), (DV.v (Value.int IntKind.i64 (0 : Int))), (DV.v (Value.int IntKind.i64 (0 : Int))), (DV.v (Value.bool false)), (DV.v (Value.int IntKind.i64 (0 : Int))), (DV.v (Value.int IntKind.i64 (0 : Int))), (DV.v (Value.int IntKind.i64 (0 : Int))), (DV.v (Value.bool false))]]).take (1)))).take (((a0_2 ++ (([[(DV.v (Value.int IntKind.i64 a1)), (DV.v (Value.int IntKind.i64 (0 : Int))), (DV.v (Value.int IntKind.i64 (0 : Int))), (DV.v (Value.bool false)), (DV.v (Value.int IntKind.i64 (0 : Int))), (DV.v (Value.int IntKind.i64 (0 : Int))), (DV.v (Value.int IntKind.i64 (0 : Int))), (DV.v (Value.bool false))]]).take (1)))).length)), ()))), ((0 : Int), ((0 : Int), ()))))))))))) : R a0_0 a0_1 a0_2 a1 = some c := start_rule (n := 400) (lv := lv) (noSum_ok _) (by kernel_rfl) h
end ref16_Wait
/-! garrison/garrisonref16.Drop -/
namespace ref16_Drop
def lv : Live := []
theorem start (a0_0 : Int) (a0_1 : Int) (a0_2 : List (List DV)) (a1 : Int) (c : ((Int × (Int × (List (List DV) × Unit))) × (Bool × Unit))) (h :
    optAll (ref16_find.R a0_0 a0_1 a0_2 a1) fun (c0 : (Int × Unit)) =>
    cond (decide (((c0).1 < (0 : Int)))) (
      c = ((a0_0, (a0_1, (a0_2, ()))), (false, ()))) (
      optAll (ref16_without.R a0_0 a0_1 a0_2 (c0).1) fun (c1 : ((Int × (Int × (List (List DV) × Unit))) × Unit)) =>
      c = ((((c1).1).1, ((((c1).1).2).1, (((((c1).1).2).2).1, ()))), (true, ())))) : R a0_0 a0_1 a0_2 a1 = some c := start_rule (n := 400) (lv := lv) (noSum_ok _) (by kernel_rfl) h
end ref16_Drop
/-! slices.ContainsFunc[[]garrison/api.Waiter,garrison/api.Waiter] -/
namespace slices_ContainsFunc_api_Waiter_api_Waiter__port_Check_1
def lv : Live := []
theorem start (a0 : List (List DV)) (b0 : List (List DV)) (c : (Bool × Unit)) (h :
    optAll (slices_IndexFunc_api_Waiter_api_Waiter__port_Check_1.R a0 b0) fun (c0 : (Int × Unit)) =>
    c = (decide (((c0).1 ≥ (0 : Int))), ())) : R a0 b0 = some c := own_rule (n := 400) (lv := lv) (noSum_ok _) (by kernel_rfl) h
end slices_ContainsFunc_api_Waiter_api_Waiter__port_Check_1
/-! garrison/port.leave -/
namespace port_leave
def lv : Live := []
theorem start (a0_0 : Int) (a0_1 : Int) (a0_2 : List (List DV)) (a1 : Int) (c : ((Int × (Int × (List (List DV) × Unit))) × ((Int × (Int × (Int × (Bool × (Int × (Int × (Int × (Bool × Unit)))))))) × Unit))) (h :
    needs ((0 : Int) ≤ a1) (
    optAll ((a0_2)[(Int.toNat a1)]?) fun (r0 : List DV) =>
    optAll ((dInt IntKind.i64 r0 0)) fun (z1 : Int) =>
    optAll ((dInt IntKind.i64 r0 1)) fun (z2 : Int) =>
    optAll ((dInt IntKind.i64 r0 2)) fun (z3 : Int) =>
    optAll ((dBool r0 3)) fun (z4 : Bool) =>
    optAll ((dInt IntKind.i64 r0 4)) fun (z5 : Int) =>
    optAll ((dInt IntKind.i64 r0 5)) fun (z6 : Int) =>
    optAll ((dInt IntKind.i64 r0 6)) fun (z7 : Int) =>
    optAll ((dBool r0 7)) fun (z8 : Bool) =>
    needs ((((a0_2).length * 64) ≤ 140737488355328) ∧ (((a0_2).length * 8) ≤ 140737488355328)) (
    needs (((IntKind.i64.wrap (a1 + (1 : Int))) ≤ (((a0_2).length : Nat) : Int)) ∧ ((((a0_2).length : Nat) : Int) ≤ ((((a0_2).length - 0) : Nat) : Int))) (
    needs (((0 : Int) ≤ a1) ∧ ((a1 ≤ (IntKind.i64.wrap (a1 + (1 : Int)))) ∧ ((IntKind.i64.wrap (a1 + (1 : Int))) ≤ ((((a0_2).length - 0) : Nat) : Int)))) (
    needs (¬ (((Int.toNat a1) = (Int.toNat (IntKind.i64.wrap (a1 + (1 : Int))))) ∧ ((((a0_2).length : Nat) : Int) = (IntKind.i64.wrap (a1 + (1 : Int)))))) (
    cond ((a1 == (IntKind.i64.wrap (a1 + (1 : Int))))) (
      cond (((((a0_2).length : Nat) : Int) == (0 : Int))) (
        c = (((0 : Int), (a0_1, (((a0_2).take ((a0_2).length)), ()))), ((z1, (z2, (z3, (z4, (z5, (z6, (z7, (z8, ())))))))), ()))) (
        c = ((a0_0, (a0_1, (((a0_2).take ((a0_2).length)), ()))), ((z1, (z2, (z3, (z4, (z5, (z6, (z7, (z8, ())))))))), ())))) (
      needs (((0 : Int) ≤ (0 : Int)) ∧ (((0 : Int) ≤ a1) ∧ (a1 ≤ ((((a0_2).length - 0) : Nat) : Int)))) (
      needs (((0 : Int) ≤ (IntKind.i64.wrap (a1 + (1 : Int)))) ∧ (((IntKind.i64.wrap (a1 + (1 : Int))) ≤ (((a0_2).length : Nat) : Int)) ∧ ((((a0_2).length : Nat) : Int) ≤ ((((a0_2).length - 0) : Nat) : Int)))) (
      cond (decide (((0 = 0) ∧ (((Int.toNat a1) - 0) = (a0_2).length)))) (
        needs (((((a0_2 ++ ((((a0_2).drop ((0 + (Int.toNat (IntKind.i64.wrap (a1 + (1 : Int)))))))).take (((Int.toNat (((a0_2).length : Nat) : Int)) - (Int.toNat (IntKind.i64.wrap (a1 + (1 : Int))))))))).length * 64) ≤ 140737488355328) ∧ ((((a0_2 ++ ((((a0_2).drop ((0 + (Int.toNat (IntKind.i64.wrap (a1 + (1 : Int)))))))).take (((Int.toNat (((a0_2).length : Nat) : Int)) - (Int.toNat (IntKind.i64.wrap (a1 + (1 : Int))))))))).length * 8) ≤ 140737488355328)) (
        needs (((0 : Int) ≤ ((((a0_2 ++ ((((a0_2).drop ((0 + (Int.toNat (IntKind.i64.wrap (a1 + (1 : Int)))))))).take (((Int.toNat (((a0_2).length : Nat) : Int)) - (Int.toNat (IntKind.i64.wrap (a1 + (1 : Int))))))))).length : Nat) : Int)) ∧ ((((((a0_2 ++ ((((a0_2).drop ((0 + (Int.toNat (IntKind.i64.wrap (a1 + (1 : Int)))))))).take (((Int.toNat (((a0_2).length : Nat) : Int)) - (Int.toNat (IntKind.i64.wrap (a1 + (1 : Int))))))))).length : Nat) : Int) ≤ (((a0_2).length : Nat) : Int)) ∧ ((((a0_2).length : Nat) : Int) ≤ (((((a0_2 ++ ((((a0_2).drop ((0 + (Int.toNat (IntKind.i64.wrap (a1 + (1 : Int)))))))).take (((Int.toNat (((a0_2).length : Nat) : Int)) - (Int.toNat (IntKind.i64.wrap (a1 + (1 : Int))))))))).length - 0) : Nat) : Int)))) (
        cond ((((((a0_2 ++ ((((a0_2).drop ((0 + (Int.toNat (IntKind.i64.wrap (a1 + (1 : Int)))))))).take (((Int.toNat (((a0_2).length : Nat) : Int)) - (Int.toNat (IntKind.i64.wrap (a1 + (1 : Int))))))))).length : Nat) : Int) == (0 : Int))) (
          c = (((0 : Int), (a0_1, ((((overD (a0_2 ++ ((((a0_2).drop ((0 + (Int.toNat (IntKind.i64.wrap (a1 + (1 : Int)))))))).take (((Int.toNat (((a0_2).length : Nat) : Int)) - (Int.toNat (IntKind.i64.wrap (a1 + (1 : Int)))))))) (0 + (Int.toNat ((((a0_2 ++ ((((a0_2).drop ((0 + (Int.toNat (IntKind.i64.wrap (a1 + (1 : Int)))))))).take (((Int.toNat (((a0_2).length : Nat) : Int)) - (Int.toNat (IntKind.i64.wrap (a1 + (1 : Int))))))))).length : Nat) : Int))) (List.replicate (((Int.toNat (((a0_2).length : Nat) : Int)) - (Int.toNat ((((a0_2 ++ ((((a0_2).drop ((0 + (Int.toNat (IntKind.i64.wrap (a1 + (1 : Int)))))))).take (((Int.toNat (((a0_2).length : Nat) : Int)) - (Int.toNat (IntKind.i64.wrap (a1 + (1 : Int))))))))).length : Nat) : Int)))) [(DV.v (Value.int IntKind.i64 (0 : Int))), (DV.v (Value.int IntKind.i64 (0 : Int))), (DV.v (Value.int IntKind.i64 (0 : Int))), (DV.v (Value.bool false)), (DV.v (Value.int IntKind.i64 (0 : Int))), (DV.v (Value.int IntKind.i64 (0 : Int))), (DV.v (Value.int IntKind.i64 (0 : Int))), (DV.v (Value.bool false))]))).take (((a0_2 ++ ((((a0_2).drop ((0 + (Int.toNat (IntKind.i64.wrap (a1 + (1 : Int)))))))).take (((Int.toNat (((a0_2).length : Nat) : Int)) - (Int.toNat (IntKind.i64.wrap (a1 + (1 : Int))))))))).length)), ()))), ((z1, (z2, (z3, (z4, (z5, (z6, (z7, (z8, ())))))))), ()))) (
          c = ((a0_0, (a0_1, ((((overD (a0_2 ++ ((((a0_2).drop ((0 + (Int.toNat (IntKind.i64.wrap (a1 + (1 : Int)))))))).take (((Int.toNat (((a0_2).length : Nat) : Int)) - (Int.toNat (IntKind.i64.wrap (a1 + (1 : Int)))))))) (0 + (Int.toNat ((((a0_2 ++ ((((a0_2).drop ((0 + (Int.toNat (IntKind.i64.wrap (a1 + (1 : Int)))))))).take (((Int.toNat (((a0_2).length : Nat) : Int)) - (Int.toNat (IntKind.i64.wrap (a1 + (1 : Int))))))))).length : Nat) : Int))) (List.replicate (((Int.toNat (((a0_2).length : Nat) : Int)) - (Int.toNat ((((a0_2 ++ ((((a0_2).drop ((0 + (Int.toNat (IntKind.i64.wrap (a1 + (1 : Int)))))))).take (((Int.toNat (((a0_2).length : Nat) : Int)) - (Int.toNat (IntKind.i64.wrap (a1 + (1 : Int))))))))).length : Nat) : Int)))) [(DV.v (Value.int IntKind.i64 (0 : Int))), (DV.v (Value.int IntKind.i64 (0 : Int))), (DV.v (Value.int IntKind.i64 (0 : Int))), (DV.v (Value.bool false)), (DV.v (Value.int IntKind.i64 (0 : Int))), (DV.v (Value.int IntKind.i64 (0 : Int))), (DV.v (Value.int IntKind.i64 (0 : Int))), (DV.v (Value.bool false))]))).take (((a0_2 ++ ((((a0_2).drop ((0 + (Int.toNat (IntKind.i64.wrap (a1 + (1 : Int)))))))).take (((Int.toNat (((a0_2).length : Nat) : Int)) - (Int.toNat (IntKind.i64.wrap (a1 + (1 : Int))))))))).length)), ()))), ((z1, (z2, (z3, (z4, (z5, (z6, (z7, (z8, ())))))))), ())))))) (
        needs (((0 + ((Int.toNat a1) - 0)) + (((((a0_2).drop ((0 + (Int.toNat (IntKind.i64.wrap (a1 + (1 : Int)))))))).take (((Int.toNat (((a0_2).length : Nat) : Int)) - (Int.toNat (IntKind.i64.wrap (a1 + (1 : Int)))))))).length) ≤ (a0_2).length) (
        needs (((0 : Int) ≤ (((((Int.toNat a1) - 0) + (((((a0_2).drop ((0 + (Int.toNat (IntKind.i64.wrap (a1 + (1 : Int)))))))).take (((Int.toNat (((a0_2).length : Nat) : Int)) - (Int.toNat (IntKind.i64.wrap (a1 + (1 : Int)))))))).length) : Nat) : Int)) ∧ (((((((Int.toNat a1) - 0) + (((((a0_2).drop ((0 + (Int.toNat (IntKind.i64.wrap (a1 + (1 : Int)))))))).take (((Int.toNat (((a0_2).length : Nat) : Int)) - (Int.toNat (IntKind.i64.wrap (a1 + (1 : Int)))))))).length) : Nat) : Int) ≤ (((a0_2).length : Nat) : Int)) ∧ ((((a0_2).length : Nat) : Int) ≤ (((((overD a0_2 (0 + ((Int.toNat a1) - 0)) ((((a0_2).drop ((0 + (Int.toNat (IntKind.i64.wrap (a1 + (1 : Int)))))))).take (((Int.toNat (((a0_2).length : Nat) : Int)) - (Int.toNat (IntKind.i64.wrap (a1 + (1 : Int))))))))).length - 0) : Nat) : Int)))) (
        cond (((((((Int.toNat a1) - 0) + (((((a0_2).drop ((0 + (Int.toNat (IntKind.i64.wrap (a1 + (1 : Int)))))))).take (((Int.toNat (((a0_2).length : Nat) : Int)) - (Int.toNat (IntKind.i64.wrap (a1 + (1 : Int)))))))).length) : Nat) : Int) == (0 : Int))) (
          c = (((0 : Int), (a0_1, ((((overD (overD a0_2 (0 + ((Int.toNat a1) - 0)) ((((a0_2).drop ((0 + (Int.toNat (IntKind.i64.wrap (a1 + (1 : Int)))))))).take (((Int.toNat (((a0_2).length : Nat) : Int)) - (Int.toNat (IntKind.i64.wrap (a1 + (1 : Int)))))))) (0 + (Int.toNat (((((Int.toNat a1) - 0) + (((((a0_2).drop ((0 + (Int.toNat (IntKind.i64.wrap (a1 + (1 : Int)))))))).take (((Int.toNat (((a0_2).length : Nat) : Int)) - (Int.toNat (IntKind.i64.wrap (a1 + (1 : Int)))))))).length) : Nat) : Int))) (List.replicate (((Int.toNat (((a0_2).length : Nat) : Int)) - (Int.toNat (((((Int.toNat a1) - 0) + (((((a0_2).drop ((0 + (Int.toNat (IntKind.i64.wrap (a1 + (1 : Int)))))))).take (((Int.toNat (((a0_2).length : Nat) : Int)) - (Int.toNat (IntKind.i64.wrap (a1 + (1 : Int)))))))).length) : Nat) : Int)))) [(DV.v (Value.int IntKind.i64 (0 : Int))), (DV.v (Value.int IntKind.i64 (0 : Int))), (DV.v (Value.int IntKind.i64 (0 : Int))), (DV.v (Value.bool false)), (DV.v (Value.int IntKind.i64 (0 : Int))), (DV.v (Value.int IntKind.i64 (0 : Int))), (DV.v (Value.int IntKind.i64 (0 : Int))), (DV.v (Value.bool false))]))).take ((((Int.toNat a1) - 0) + (((((a0_2).drop ((0 + (Int.toNat (IntKind.i64.wrap (a1 + (1 : Int)))))))).take (((Int.toNat (((a0_2).length : Nat) : Int)) - (Int.toNat (IntKind.i64.wrap (a1 + (1 : Int)))))))).length))), ()))), ((z1, (z2, (z3, (z4, (z5, (z6, (z7, (z8, ())))))))), ()))) (
          c = ((a0_0, (a0_1, ((((overD (overD a0_2 (0 + ((Int.toNat a1) - 0)) ((((a0_2).drop ((0 + (Int.toNat (IntKind.i64.wrap (a1 + (1 : Int)))))))).take (((Int.toNat (((a0_2).length : Nat) : Int)) - (Int.toNat (IntKind.i64.wrap (a1 + (1 : Int)))))))) (0 + (Int.toNat (((((Int.toNat a1) - 0) + (((((a0_2).drop ((0 + (Int.toNat (IntKind.i64.wrap (a1 + (1 : Int)))))))).take (((Int.toNat (((a0_2).length : Nat) : Int)) - (Int.toNat (IntKind.i64.wrap (a1 + (1 : Int)))))))).length) : Nat) : Int))) (List.replicate (((Int.toNat (((a0_2).length : Nat) : Int)) - (Int.toNat (((((Int.toNat a1) - 0) + (((((a0_2).drop ((0 + (Int.toNat (IntKind.i64.wrap (a1 + (1 : Int)))))))).take (((Int.toNat (((a0_2).length : Nat) : Int)) - (Int.toNat (IntKind.i64.wrap (a1 + (1 : Int)))))))).length) : Nat) : Int)))) [(DV.v (Value.int IntKind.i64 (0 : Int))), (DV.v (Value.int IntKind.i64 (0 : Int))), (DV.v (Value.int IntKind.i64 (0 : Int))), (DV.v (Value.bool false)), (DV.v (Value.int IntKind.i64 (0 : Int))), (DV.v (Value.int IntKind.i64 (0 : Int))), (DV.v (Value.int IntKind.i64 (0 : Int))), (DV.v (Value.bool false))]))).take ((((Int.toNat a1) - 0) + (((((a0_2).drop ((0 + (Int.toNat (IntKind.i64.wrap (a1 + (1 : Int)))))))).take (((Int.toNat (((a0_2).length : Nat) : Int)) - (Int.toNat (IntKind.i64.wrap (a1 + (1 : Int)))))))).length))), ()))), ((z1, (z2, (z3, (z4, (z5, (z6, (z7, (z8, ())))))))), ()))))))))))))))) : R a0_0 a0_1 a0_2 a1 = some c := start_rule (n := 400) (lv := lv) (partSum_ok _) (by kernel_rfl) h
end port_leave
/-! garrison/port.begin -/
namespace port_begin
def lv : Live := []
theorem start (a0_0 : Int) (a0_1 : Int) (a0_2 : List (List DV)) (a1 : Int) (c : (Int × Unit)) (h :
    optAll (port_isCore.R a1) fun (c0 : (Bool × Unit)) =>
    cond ((!(c0).1)) (
      c = ((2 : Int), ())) (
      optAll (port_Check.R a0_0 a0_1 a0_2) fun (c1 : (Int × Unit)) =>
      cond (((c1).1 != (0 : Int))) (
        c = ((2 : Int), ())) (
        optAll (port_at.R a0_0 a0_1 a0_2 a1) fun (c2 : (Int × Unit)) =>
        cond (decide (((c2).1 ≥ (0 : Int)))) (
          c = ((8 : Int), ())) (
          c = ((0 : Int), ()))))) : R a0_0 a0_1 a0_2 a1 = some c := start_rule (n := 400) (lv := lv) (noSum_ok _) (by kernel_rfl) h
end port_begin
/-! garrison/port.join -/
namespace port_join
def lv : Live := []
theorem start (a0_0 : Int) (a0_1 : Int) (a0_2 : List (List DV)) (a1 : Int) (a2_0 : Int) (a2_1 : Int) (a2_2 : Int) (a2_3 : Bool) (a2_4 : Int) (a2_5 : Int) (a2_6 : Int) (a2_7 : Bool) (c : ((Int × (Int × (List (List DV) × Unit))) × Unit)) (h :
    needs ((((a0_2).length * 64) ≤ 140737488355328) ∧ (((a0_2).length * 8) ≤ 140737488355328)) (
    needs ((a0_2).length = (a0_2).length) (
    needs (((((a0_2 ++ (([[(DV.v (Value.int IntKind.i64 a2_0)), (DV.v (Value.int IntKind.i64 a2_1)), (DV.v (Value.int IntKind.i64 a2_2)), (DV.v (Value.bool a2_3)), (DV.v (Value.int IntKind.i64 a2_4)), (DV.v (Value.int IntKind.i64 a2_5)), (DV.v (Value.int IntKind.i64 a2_6)), (DV.v (Value.bool a2_7))]]).take (1)))).length * 64) ≤ 140737488355328) ∧ ((((a0_2 ++ (([[(DV.v (Value.int IntKind.i64 a2_0)), (DV.v (Value.int IntKind.i64 a2_1)), (DV.v (Value.int IntKind.i64 a2_2)), (DV.v (Value.bool a2_3)), (DV.v (Value.int IntKind.i64 a2_4)), (DV.v (Value.int IntKind.i64 a2_5)), (DV.v (Value.int IntKind.i64 a2_6)), (DV.v (Value.bool a2_7))]]).take (1)))).length * 8) ≤ 140737488355328)) (
    c = ((a1, (a0_1, ((((a0_2 ++ (([[(DV.v (Value.int IntKind.i64 a2_0)), (DV.v (Value.int IntKind.i64 a2_1)), (DV.v (Value.int IntKind.i64 a2_2)), (DV.v (Value.bool a2_3)), (DV.v (Value.int IntKind.i64 a2_4)), (DV.v (Value.int IntKind.i64 a2_5)), (DV.v (Value.int IntKind.i64 a2_6)), (DV.v (Value.bool a2_7))]]).take (1)))).take (((a0_2 ++ (([[(DV.v (Value.int IntKind.i64 a2_0)), (DV.v (Value.int IntKind.i64 a2_1)), (DV.v (Value.int IntKind.i64 a2_2)), (DV.v (Value.bool a2_3)), (DV.v (Value.int IntKind.i64 a2_4)), (DV.v (Value.int IntKind.i64 a2_5)), (DV.v (Value.int IntKind.i64 a2_6)), (DV.v (Value.bool a2_7))]]).take (1)))).length)), ()))), ()))))) : R a0_0 a0_1 a0_2 a1 a2_0 a2_1 a2_2 a2_3 a2_4 a2_5 a2_6 a2_7 = some c := start_rule (n := 400) (lv := lv) (noSum_ok _) (by kernel_rfl) h
end port_join
/-! garrison/port.at -/
namespace port_at
def lv : Live := []
theorem start (a0_0 : Int) (a0_1 : Int) (a0_2 : List (List DV)) (a1 : Int) (c : (Int × Unit)) (h :
    optAll (slices_IndexFunc_api_Waiter_api_Waiter__port_at_1.R a0_2 a1) fun (c0 : (Int × Unit)) =>
    c = ((c0).1, ())) : R a0_0 a0_1 a0_2 a1 = some c := start_rule (n := 400) (lv := lv) (noSum_ok _) (by kernel_rfl) h
end port_at
/-! garrison/port.meet -/
namespace port_meet
def lv : Live := []
theorem start (a0_0 : Int) (a0_1 : Int) (a0_2 : List (List DV)) (a1_0 : Int) (a1_1 : Int) (a1_2 : Int) (a1_3 : Bool) (a1_4 : Int) (a1_5 : Int) (a1_6 : Int) (a1_7 : Bool) (a2 : Int) (a3 : Int) (c : ((Int × (Int × (List (List DV) × Unit))) × ((Int × (Int × (Int × (Bool × (Int × (Int × (Int × (Bool × Unit)))))))) × (Bool × (Int × Unit))))) (h :
    optAll (port_begin.R a0_0 a0_1 a0_2 a1_0) fun (c0 : (Int × Unit)) =>
    cond (((c0).1 != (0 : Int))) (
      c = ((a0_0, (a0_1, (a0_2, ()))), (((0 : Int), ((0 : Int), ((0 : Int), (false, ((0 : Int), ((0 : Int), ((0 : Int), (false, ())))))))), (false, ((c0).1, ()))))) (
      cond ((a0_0 == a2)) (
        optAll (port_leave.R a0_0 a0_1 a0_2 (0 : Int)) fun (c1 : ((Int × (Int × (List (List DV) × Unit))) × ((Int × (Int × (Int × (Bool × (Int × (Int × (Int × (Bool × Unit)))))))) × Unit))) =>
        c = ((((c1).1).1, ((((c1).1).2).1, (((((c1).1).2).2).1, ()))), (((((c1).2).1).1, (((((c1).2).1).2).1, ((((((c1).2).1).2).2).1, (((((((c1).2).1).2).2).2).1, ((((((((c1).2).1).2).2).2).2).1, (((((((((c1).2).1).2).2).2).2).2).1, ((((((((((c1).2).1).2).2).2).2).2).2).1, (((((((((((c1).2).1).2).2).2).2).2).2).2).1, ())))))))), (true, ((0 : Int), ()))))) (
        optAll (port_join.R a0_0 a0_1 a0_2 a3 a1_0 a1_1 a1_2 a1_3 a1_4 a1_5 a1_6 a1_7) fun (c2 : ((Int × (Int × (List (List DV) × Unit))) × Unit)) =>
        c = ((((c2).1).1, ((((c2).1).2).1, (((((c2).1).2).2).1, ()))), (((0 : Int), ((0 : Int), ((0 : Int), (false, ((0 : Int), ((0 : Int), ((0 : Int), (false, ())))))))), (false, ((0 : Int), ()))))))) : R a0_0 a0_1 a0_2 a1_0 a1_1 a1_2 a1_3 a1_4 a1_5 a1_6 a1_7 a2 a3 = some c := start_rule (n := 400) (lv := lv) (noSum_ok _) (by kernel_rfl) h
end port_meet
/-! slices.Equal[[]garrison/api.Waiter,garrison/api.Waiter] -/
namespace slices_Equal_api_Waiter_api_Waiter
def lv : Live := [((5, 1048576), [0, 1, 12, 13], [])]
abbrev H5 (x0 : List (List DV)) (x1 : List (List DV)) (x12 : Int) (x13 : Int) (c : (Bool × Unit)) : Prop := HeadAns cfg 35 sh lv (bd cfg 35 [1, 1, 0, 1, 0, 0]) 1048576 [.inBlock 0, .code (bd cfg 35 [1, 1, 1])]
  [(AV.d (DV.lst 8 x0)), (AV.d (DV.lst 8 x1)), (AV.d (DV.v (Value.int IntKind.i64 x12))), (AV.d (DV.v (Value.int IntKind.i64 x13)))] [] 1048576 c
theorem start (a0 : List (List DV)) (a1 : List (List DV)) (c : (Bool × Unit)) (h :
    cond (((((a0).length : Nat) : Int) != (((a1).length : Nat) : Int))) (
      c = (false, ())) (
      H5 a0 a1 (((a0).length : Nat) : Int) (0 : Int) c)) : R a0 a1 = some c := start_rule (n := 400) (lv := lv) (noSum_ok _) (by kernel_rfl) h
theorem H5_step (x0 : List (List DV)) (x1 : List (List DV)) (x12 : Int) (x13 : Int) (c : (Bool × Unit)) (h :
    cond (decide ((x13 < x12))) (
      needs ((0 : Int) ≤ x13) (
      optAll ((x0)[(Int.toNat x13)]?) fun (r0 : List DV) =>
      optAll ((dInt IntKind.i64 r0 0)) fun (z1 : Int) =>
      optAll ((dInt IntKind.i64 r0 1)) fun (z2 : Int) =>
      optAll ((dInt IntKind.i64 r0 2)) fun (z3 : Int) =>
      optAll ((dBool r0 3)) fun (z4 : Bool) =>
      optAll ((dInt IntKind.i64 r0 4)) fun (z5 : Int) =>
      optAll ((dInt IntKind.i64 r0 5)) fun (z6 : Int) =>
      optAll ((dInt IntKind.i64 r0 6)) fun (z7 : Int) =>
      optAll ((dBool r0 7)) fun (z8 : Bool) =>
      needs ((0 : Int) ≤ x13) (
      optAll ((x1)[(Int.toNat x13)]?) fun (r9 : List DV) =>
      optAll ((dInt IntKind.i64 r9 0)) fun (z10 : Int) =>
      optAll ((dInt IntKind.i64 r9 1)) fun (z11 : Int) =>
      optAll ((dInt IntKind.i64 r9 2)) fun (z12 : Int) =>
      optAll ((dBool r9 3)) fun (z13 : Bool) =>
      optAll ((dInt IntKind.i64 r9 4)) fun (z14 : Int) =>
      optAll ((dInt IntKind.i64 r9 5)) fun (z15 : Int) =>
      optAll ((dInt IntKind.i64 r9 6)) fun (z16 : Int) =>
      optAll ((dBool r9 7)) fun (z17 : Bool) =>
      cond ((!((z1 == z10) && ((z2 == z11) && ((z3 == z12) && ((z4 == z13) && ((z5 == z14) && ((z6 == z15) && ((z7 == z16) && ((z8 == z17) && true)))))))))) (
        c = (false, ())) (
        H5 x0 x1 x12 (IntKind.i64.wrap (x13 + (1 : Int))) c)))) (
      c = (true, ()))) : H5 x0 x1 x12 x13 c := head_rule (n := 400) (noSum_ok _) (by kernel_rfl) h
end slices_Equal_api_Waiter_api_Waiter
/-! garrison/garrisonref16.meet -/
namespace ref16_meet
def lv : Live := []
theorem start (a0_0 : Int) (a0_1 : Int) (a0_2 : List (List DV)) (a1_0 : Int) (a1_1 : Int) (a1_2 : Int) (a1_3 : Bool) (a1_4 : Int) (a1_5 : Int) (a1_6 : Int) (a1_7 : Bool) (a2 : Int) (c : ((Int × (Int × (List (List DV) × Unit))) × ((Int × (Int × (Int × (Bool × (Int × (Int × (Int × (Bool × Unit)))))))) × (Bool × (Int × Unit))))) (h :
    optAll (ref16_Is.R a0_0 a0_1 a0_2) fun (c0 : (Bool × Unit)) =>
    cond ((!(c0).1)) (
      c = ((a0_0, (a0_1, (a0_2, ()))), (((0 : Int), ((0 : Int), ((0 : Int), (false, ((0 : Int), ((0 : Int), ((0 : Int), (false, ())))))))), (false, ((2 : Int), ()))))) (
      optAll (ref16_core.R a1_0) fun (c1 : (Bool × Unit)) =>
      cond ((!(c1).1)) (
        c = ((a0_0, (a0_1, (a0_2, ()))), (((0 : Int), ((0 : Int), ((0 : Int), (false, ((0 : Int), ((0 : Int), ((0 : Int), (false, ())))))))), (false, ((2 : Int), ()))))) (
        optAll (ref16_find.R a0_0 a0_1 a0_2 a1_0) fun (c2 : (Int × Unit)) =>
        cond (decide (((c2).1 ≥ (0 : Int)))) (
          c = ((a0_0, (a0_1, (a0_2, ()))), (((0 : Int), ((0 : Int), ((0 : Int), (false, ((0 : Int), ((0 : Int), ((0 : Int), (false, ())))))))), (false, ((8 : Int), ()))))) (
          cond ((a0_0 == (IntKind.i64.wrap ((3 : Int) - a2)))) (
            optAll (ref16_without.R a0_0 a0_1 a0_2 (0 : Int)) fun (c3 : ((Int × (Int × (List (List DV) × Unit))) × Unit)) =>
            optAll ((a0_2)[0]?) fun (r4 : List DV) =>
            optAll ((dInt IntKind.i64 r4 0)) fun (z5 : Int) =>
            optAll ((dInt IntKind.i64 r4 1)) fun (z6 : Int) =>
            optAll ((dInt IntKind.i64 r4 2)) fun (z7 : Int) =>
            optAll ((dBool r4 3)) fun (z8 : Bool) =>
            optAll ((dInt IntKind.i64 r4 4)) fun (z9 : Int) =>
            optAll ((dInt IntKind.i64 r4 5)) fun (z10 : Int) =>
            optAll ((dInt IntKind.i64 r4 6)) fun (z11 : Int) =>
            optAll ((dBool r4 7)) fun (z12 : Bool) =>
            c = ((((c3).1).1, ((((c3).1).2).1, (((((c3).1).2).2).1, ()))), ((z5, (z6, (z7, (z8, (z9, (z10, (z11, (z12, ())))))))), (true, ((0 : Int), ()))))) (
            needs ((((a0_2).length * 64) ≤ 140737488355328) ∧ (((a0_2).length * 8) ≤ 140737488355328)) (
            needs ((a0_2).length = (a0_2).length) (
            needs (((((a0_2 ++ (([[(DV.v (Value.int IntKind.i64 a1_0)), (DV.v (Value.int IntKind.i64 a1_1)), (DV.v (Value.int IntKind.i64 a1_2)), (DV.v (Value.bool a1_3)), (DV.v (Value.int IntKind.i64 a1_4)), (DV.v (Value.int IntKind.i64 a1_5)), (DV.v (Value.int IntKind.i64 a1_6)), (DV.v (Value.bool a1_7))]]).take (1)))).length * 64) ≤ 140737488355328) ∧ ((((a0_2 ++ (([[(DV.v (Value.int IntKind.i64 a1_0)), (DV.v (Value.int IntKind.i64 a1_1)), (DV.v (Value.int IntKind.i64 a1_2)), (DV.v (Value.bool a1_3)), (DV.v (Value.int IntKind.i64 a1_4)), (DV.v (Value.int IntKind.i64 a1_5)), (DV.v (Value.int IntKind.i64 a1_6)), (DV.v (Value.bool a1_7))]]).take (1)))).length * 8) ≤ 140737488355328)) (
            c = ((a2, (a0_1, ((((a0_2 ++ (([[(DV.v (Value.int IntKind.i64 a1_0)), (DV.v (Value.int IntKind.i64 a1_1)), (DV.v (Value.int IntKind.i64 a1_2)), (DV.v (Value.bool a1_3)), (DV.v (Value.int IntKind.i64 a1_4)), (DV.v (Value.int IntKind.i64 a1_5)), (DV.v (Value.int IntKind.i64 a1_6)), (DV.v (Value.bool a1_7))]]).take (1)))).take (((a0_2 ++ (([[(DV.v (Value.int IntKind.i64 a1_0)), (DV.v (Value.int IntKind.i64 a1_1)), (DV.v (Value.int IntKind.i64 a1_2)), (DV.v (Value.bool a1_3)), (DV.v (Value.int IntKind.i64 a1_4)), (DV.v (Value.int IntKind.i64 a1_5)), (DV.v (Value.int IntKind.i64 a1_6)), (DV.v (Value.bool a1_7))]]).take (1)))).length)), ()))), (((0 : Int), ((0 : Int), ((0 : Int), (false, ((0 : Int), ((0 : Int), ((0 : Int), (false, ())))))))), (false, ((0 : Int), ())))))))))))) : R a0_0 a0_1 a0_2 a1_0 a1_1 a1_2 a1_3 a1_4 a1_5 a1_6 a1_7 a2 = some c := start_rule (n := 400) (lv := lv) (noSum_ok _) (by kernel_rfl) h
end ref16_meet
/-! garrison/garrisonref16.Is -/
namespace ref16_Is
def lv : Live := [((5, 1048576), [1, 3], [65])]
abbrev H5 (x3 : Int) (b65 : Int) (b65_1 : Int) (b65_2 : List (List DV)) (c : (Bool × Unit)) : Prop := HeadAns cfg 37 sh lv (bd cfg 37 [1, 1, 0, 1, 0, 0]) 1048576 [.inBlock 0, .code (bd cfg 37 [1, 1, 1])]
  [(AV.ptr 65 0 0 0), (AV.d (DV.v (Value.int IntKind.i64 x3)))] [(Option.some (VBlk.cell 3 0 [(AV.d (DV.v (Value.int IntKind.i64 b65))), (AV.d (DV.v (Value.int IntKind.i64 b65_1))), (AV.d (DV.lst 8 b65_2))]))] 1048576 c
theorem start (a0_0 : Int) (a0_1 : Int) (a0_2 : List (List DV)) (c : (Bool × Unit)) (h :
    cond (decide ((a0_0 < (0 : Int)))) (
      c = (false, ())) (
      cond (decide ((a0_0 > (2 : Int)))) (
        c = (false, ())) (
        cond ((!((a0_0 == (0 : Int)) == ((((a0_2).length : Nat) : Int) == (0 : Int))))) (
          c = (false, ())) (
          cond ((a0_0 != (0 : Int))) (
            cond ((a0_1 != (0 : Int))) (
              c = (false, ())) (
              cond (decide (((((a0_2).length : Nat) : Int) > (64 : Int)))) (
                c = (false, ())) (
                H5 (0 : Int) a0_0 a0_1 a0_2 c))) (
            cond (decide (((((a0_2).length : Nat) : Int) > (64 : Int)))) (
              c = (false, ())) (
              H5 (0 : Int) a0_0 a0_1 a0_2 c)))))) : R a0_0 a0_1 a0_2 = some c := start_rule (n := 400) (lv := lv) (noSum_ok _) (by kernel_rfl) h
theorem H5_step (x3 : Int) (b65 : Int) (b65_1 : Int) (b65_2 : List (List DV)) (c : (Bool × Unit)) (h :
    cond (decide ((x3 < (((b65_2).length : Nat) : Int)))) (
      needs ((0 : Int) ≤ x3) (
      optAll ((b65_2)[(Int.toNat x3)]?) fun (r0 : List DV) =>
      optAll ((dInt IntKind.i64 r0 0)) fun (z1 : Int) =>
      optAll (ref16_core.R z1) fun (c2 : (Bool × Unit)) =>
      cond ((!(c2).1)) (
        c = (false, ())) (
        needs ((0 : Int) ≤ x3) (
        optAll ((b65_2)[(Int.toNat x3)]?) fun (r3 : List DV) =>
        optAll ((dInt IntKind.i64 r3 0)) fun (z4 : Int) =>
        optAll (ref16_find.R b65 b65_1 b65_2 z4) fun (c5 : (Int × Unit)) =>
        cond (((c5).1 != x3)) (
          c = (false, ())) (
          H5 (IntKind.i64.wrap (x3 + (1 : Int))) b65 b65_1 b65_2 c))))) (
      c = (true, ()))) : H5 x3 b65 b65_1 b65_2 c := head_rule (n := 400) (noSum_ok _) (by kernel_rfl) h
end ref16_Is
/-! garrison/garrisonref16.without -/
namespace ref16_without
def lv : Live := []
theorem start (a0_0 : Int) (a0_1 : Int) (a0_2 : List (List DV)) (a1 : Int) (c : ((Int × (Int × (List (List DV) × Unit))) × Unit)) (h :
    needs (((0 : Int) ≤ (0 : Int)) ∧ (((0 : Int) ≤ a1) ∧ (a1 ≤ (((a0_2).length : Nat) : Int)))) (
    needs ((((((a0_2).take ((Int.toNat a1)))).length * 64) ≤ 140737488355328) ∧ (((((a0_2).take ((Int.toNat a1)))).length * 8) ≤ 140737488355328)) (
    needs (((0 : Int) ≤ (IntKind.i64.wrap (a1 + (1 : Int)))) ∧ (((IntKind.i64.wrap (a1 + (1 : Int))) ≤ (((a0_2).length : Nat) : Int)) ∧ ((((a0_2).length : Nat) : Int) ≤ (((a0_2).length : Nat) : Int)))) (
    needs ((((a0_2).take ((Int.toNat a1)))).length = (((a0_2).take ((Int.toNat a1)))).length) (
    needs (((((((a0_2).take ((Int.toNat a1))) ++ ((((a0_2).take ((Int.toNat (((a0_2).length : Nat) : Int))))).drop ((Int.toNat (IntKind.i64.wrap (a1 + (1 : Int)))))))).length * 64) ≤ 140737488355328) ∧ ((((((a0_2).take ((Int.toNat a1))) ++ ((((a0_2).take ((Int.toNat (((a0_2).length : Nat) : Int))))).drop ((Int.toNat (IntKind.i64.wrap (a1 + (1 : Int)))))))).length * 8) ≤ 140737488355328)) (
    cond ((((((((a0_2).take ((Int.toNat a1))) ++ ((((a0_2).take ((Int.toNat (((a0_2).length : Nat) : Int))))).drop ((Int.toNat (IntKind.i64.wrap (a1 + (1 : Int)))))))).length : Nat) : Int) == (0 : Int))) (
      c = (((0 : Int), (a0_1, ((((((a0_2).take ((Int.toNat a1))) ++ ((((a0_2).take ((Int.toNat (((a0_2).length : Nat) : Int))))).drop ((Int.toNat (IntKind.i64.wrap (a1 + (1 : Int)))))))).take (((((a0_2).take ((Int.toNat a1))) ++ ((((a0_2).take ((Int.toNat (((a0_2).length : Nat) : Int))))).drop ((Int.toNat (IntKind.i64.wrap (a1 + (1 : Int)))))))).length)), ()))), ())) (
      c = ((a0_0, (a0_1, ((((((a0_2).take ((Int.toNat a1))) ++ ((((a0_2).take ((Int.toNat (((a0_2).length : Nat) : Int))))).drop ((Int.toNat (IntKind.i64.wrap (a1 + (1 : Int)))))))).take (((((a0_2).take ((Int.toNat a1))) ++ ((((a0_2).take ((Int.toNat (((a0_2).length : Nat) : Int))))).drop ((Int.toNat (IntKind.i64.wrap (a1 + (1 : Int)))))))).length)), ()))), ())))))))) : R a0_0 a0_1 a0_2 a1 = some c := start_rule (n := 400) (lv := lv) (noSum_ok _) (by kernel_rfl) h
end ref16_without
/-! garrison/garrisonref16.core -/
namespace ref16_core
def lv : Live := []
theorem start (a0 : Int) (c : (Bool × Unit)) (h :
    cond (decide ((a0 ≥ (0 : Int)))) (
      c = (decide ((a0 < (64 : Int))), ())) (
      c = (false, ()))) : R a0 = some c := start_rule (n := 400) (lv := lv) (noSum_ok _) (by kernel_rfl) h
end ref16_core
/-! garrison/garrisonref16.find -/
namespace ref16_find
def lv : Live := [((3, 1048576), [1, 2, 5], [22])]
abbrev H3 (x1 : Int) (x5 : Int) (b22 : Int) (b22_1 : Int) (b22_2 : List (List DV)) (c : (Int × Unit)) : Prop := HeadAns cfg 40 sh lv (bd cfg 40 [1, 0, 1, 0, 0]) 1048576 [.inBlock 0, .code (bd cfg 40 [1, 1])]
  [(AV.d (DV.v (Value.int IntKind.i64 x1))), (AV.ptr 22 0 0 0), (AV.d (DV.v (Value.int IntKind.i64 x5)))] [(Option.some (VBlk.cell 3 0 [(AV.d (DV.v (Value.int IntKind.i64 b22))), (AV.d (DV.v (Value.int IntKind.i64 b22_1))), (AV.d (DV.lst 8 b22_2))]))] 1048576 c
theorem start (a0_0 : Int) (a0_1 : Int) (a0_2 : List (List DV)) (a1 : Int) (c : (Int × Unit)) (h :
    H3 a1 (0 : Int) a0_0 a0_1 a0_2 c) : R a0_0 a0_1 a0_2 a1 = some c := start_rule (n := 400) (lv := lv) (noSum_ok _) (by kernel_rfl) h
theorem H3_step (x1 : Int) (x5 : Int) (b22 : Int) (b22_1 : Int) (b22_2 : List (List DV)) (c : (Int × Unit)) (h :
    cond (decide ((x5 < (((b22_2).length : Nat) : Int)))) (
      needs ((0 : Int) ≤ x5) (
      optAll ((b22_2)[(Int.toNat x5)]?) fun (r0 : List DV) =>
      optAll ((dInt IntKind.i64 r0 0)) fun (z1 : Int) =>
      cond ((z1 == x1)) (
        c = (x5, ())) (
        H3 x1 (IntKind.i64.wrap (x5 + (1 : Int))) b22 b22_1 b22_2 c))) (
      c = ((-1 : Int), ()))) : H3 x1 x5 b22 b22_1 b22_2 c := head_rule (n := 400) (noSum_ok _) (by kernel_rfl) h
end ref16_find
/-! slices.IndexFunc[[]garrison/api.Waiter,garrison/api.Waiter] -/
namespace slices_IndexFunc_api_Waiter_api_Waiter__port_Check_1
def lv : Live := [((3, 1048576), [0, 1, 7, 8], [0])]
abbrev H3 (x0 : List (List DV)) (x7 : Int) (x8 : Int) (b0 : List (List DV)) (c : (Int × Unit)) : Prop := HeadAnsL wide cfg 41 sh lv (bd cfg 41 [1, 0, 1, 0, 0]) 1048576 [.inBlock 0, .code (bd cfg 41 [1, 1])]
  [(AV.d (DV.lst 8 x0)), (AV.fn 27 [(AV.ptr 0 0 0 0)]), (AV.d (DV.v (Value.int IntKind.i64 x7))), (AV.d (DV.v (Value.int IntKind.i64 x8)))] [(Option.some (VBlk.drow 64 0 b0))] 1048576 c
theorem start (a0 : List (List DV)) (b0 : List (List DV)) (c : (Int × Unit)) (h :
    H3 a0 (((a0).length : Nat) : Int) (0 : Int) b0 c) : R a0 b0 = some c := own_rule (n := 400) (lv := lv) (noSum_ok _) (by kernel_rfl) h
theorem H3_step (x0 : List (List DV)) (x7 : Int) (x8 : Int) (b0 : List (List DV)) (c : (Int × Unit)) (h :
    cond (decide ((x8 < x7))) (
      needs ((0 : Int) ≤ x8) (
      optAll ((x0)[(Int.toNat x8)]?) fun (r0 : List DV) =>
      optAll ((dInt IntKind.i64 r0 0)) fun (z1 : Int) =>
      optAll ((dInt IntKind.i64 r0 1)) fun (z2 : Int) =>
      optAll ((dInt IntKind.i64 r0 2)) fun (z3 : Int) =>
      optAll ((dBool r0 3)) fun (z4 : Bool) =>
      optAll ((dInt IntKind.i64 r0 4)) fun (z5 : Int) =>
      optAll ((dInt IntKind.i64 r0 5)) fun (z6 : Int) =>
      optAll ((dInt IntKind.i64 r0 6)) fun (z7 : Int) =>
      optAll ((dBool r0 7)) fun (z8 : Bool) =>
      optAll (port_isCore.R z1) fun (c9 : (Bool × Unit)) =>
      cond ((!(c9).1)) (
        c = (x8, ())) (
        needs (((0 : Int) ≤ z1) ∧ (z1 < (64 : Int))) (
        optAll ((b0)[0]?) fun (r10 : List DV) =>
        optAll ((dBool r10 (0 + ((Int.toNat z1) * 1)))) fun (z11 : Bool) =>
        cond (z11) (
          c = (x8, ())) (
          needs (((0 : Int) ≤ z1) ∧ (z1 < (64 : Int))) (
          optAll ((b0)[0]?) fun (r12 : List DV) =>
          needs (((0 + ((Int.toNat z1) * 1)) + 1) ≤ (r12).length) (
          H3 x0 x7 (IntKind.i64.wrap (x8 + (1 : Int))) ((b0).set (0) (putD r12 (0 + ((Int.toNat z1) * 1)) [(DV.v (Value.bool true))])) c))))))) (
      c = ((-1 : Int), ()))) : H3 x0 x7 x8 b0 c := head_ruleL (n := 400) (noSum_ok _) (by kernel_rfl) h
end slices_IndexFunc_api_Waiter_api_Waiter__port_Check_1
/-! garrison/port.isCore -/
namespace port_isCore
def lv : Live := []
theorem start (a0 : Int) (c : (Bool × Unit)) (h :
    cond (decide ((a0 ≥ (0 : Int)))) (
      c = (decide ((a0 < (64 : Int))), ())) (
      c = (false, ()))) : R a0 = some c := start_rule (n := 400) (lv := lv) (noSum_ok _) (by kernel_rfl) h
end port_isCore
/-! slices.IndexFunc[[]garrison/api.Waiter,garrison/api.Waiter] -/
namespace slices_IndexFunc_api_Waiter_api_Waiter__port_at_1
def lv : Live := [((3, 1048576), [0, 1, 7, 8], [0])]
abbrev H3 (x0 : List (List DV)) (x7 : Int) (x8 : Int) (b0 : Int) (c : (Int × Unit)) : Prop := HeadAnsL wide cfg 41 sh lv (bd cfg 41 [1, 0, 1, 0, 0]) 1048576 [.inBlock 0, .code (bd cfg 41 [1, 1])]
  [(AV.d (DV.lst 8 x0)), (AV.fn 44 [(AV.ptr 0 0 0 0)]), (AV.d (DV.v (Value.int IntKind.i64 x7))), (AV.d (DV.v (Value.int IntKind.i64 x8)))] [(Option.some (VBlk.cell 1 0 [(AV.d (DV.v (Value.int IntKind.i64 b0)))]))] 1048576 c
theorem start (a0 : List (List DV)) (b0 : Int) (c : (Int × Unit)) (h :
    H3 a0 (((a0).length : Nat) : Int) (0 : Int) b0 c) : R a0 b0 = some c := own_rule (n := 400) (lv := lv) (noSum_ok _) (by kernel_rfl) h
theorem H3_step (x0 : List (List DV)) (x7 : Int) (x8 : Int) (b0 : Int) (c : (Int × Unit)) (h :
    cond (decide ((x8 < x7))) (
      needs ((0 : Int) ≤ x8) (
      optAll ((x0)[(Int.toNat x8)]?) fun (r0 : List DV) =>
      optAll ((dInt IntKind.i64 r0 0)) fun (z1 : Int) =>
      optAll ((dInt IntKind.i64 r0 1)) fun (z2 : Int) =>
      optAll ((dInt IntKind.i64 r0 2)) fun (z3 : Int) =>
      optAll ((dBool r0 3)) fun (z4 : Bool) =>
      optAll ((dInt IntKind.i64 r0 4)) fun (z5 : Int) =>
      optAll ((dInt IntKind.i64 r0 5)) fun (z6 : Int) =>
      optAll ((dInt IntKind.i64 r0 6)) fun (z7 : Int) =>
      optAll ((dBool r0 7)) fun (z8 : Bool) =>
      cond ((z1 == b0)) (
        c = (x8, ())) (
        H3 x0 x7 (IntKind.i64.wrap (x8 + (1 : Int))) b0 c))) (
      c = ((-1 : Int), ()))) : H3 x0 x7 x8 b0 c := head_ruleL (n := 400) (noSum_ok _) (by kernel_rfl) h
end slices_IndexFunc_api_Waiter_api_Waiter__port_at_1
end Go.AI
