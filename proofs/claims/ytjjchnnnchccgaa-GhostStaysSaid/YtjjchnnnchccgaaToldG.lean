/-
  Own work: printed by Tell, a program of this work: what each function's body does over symbols.
-/
import Derived.Test.YtjjchnnnchccgaaCfg
import Derived.KernelRfl
namespace Go.AI
open Go
set_option maxRecDepth 100000
set_option linter.unusedVariables false
set_option linter.unusedSimpArgs false
/-! garrison/garrisonlaw14.GhostSteps -/
namespace law14_GhostSteps
abbrev sh : List Sh := [.one (.bool)]
noncomputable abbrev R (a0_0 : List (List DV)) (a0_1 : List (List DV)) (a0_2 : List (List DV)) (a1_0 : List (List DV)) (a1_1 : List (List DV)) (a1_2 : List (List DV)) (a2_0 : Int) (a2_1 : Int) (a2_2 : Int) (a2_3 : Int) (a2_4 : Int) : Option (Bool × Unit) := retω cfg sh 3 [(AV.agg [(AV.d (DV.lst 2 a0_0)), (AV.d (DV.lst 1 a0_1)), (AV.d (DV.lst 1 a0_2))]), (AV.agg [(AV.d (DV.lst 2 a1_0)), (AV.d (DV.lst 1 a1_1)), (AV.d (DV.lst 1 a1_2))]), (AV.agg [(AV.d (DV.v (Value.int IntKind.i64 a2_0))), (AV.d (DV.v (Value.int IntKind.i64 a2_1))), (AV.d (DV.v (Value.int IntKind.i64 a2_2))), (AV.d (DV.v (Value.int IntKind.i64 a2_3))), (AV.d (DV.v (Value.int IntKind.i64 a2_4)))])]
end law14_GhostSteps
/-! garrison/garrisonlaw14.GhostRuns -/
namespace law14_GhostRuns
abbrev sh : List Sh := [.one (.bool)]
noncomputable abbrev R (a0 : List (List DV)) : Option (Bool × Unit) := retω cfg sh 4 [(AV.d (DV.lst 5 a0))]
end law14_GhostRuns
/-! garrison/garrisonlaw14.GhostStays -/
namespace law14_GhostStays
abbrev sh : List Sh := [.one (.bool)]
noncomputable abbrev R (a0 : List (List DV)) (a1_0 : Int) (a1_1 : Int) (a2_0 : Int) (a2_1 : Int) (a3 : List (List DV)) : Option (Bool × Unit) := retω cfg sh 5 [(AV.d (DV.lst 5 a0)), (AV.agg [(AV.d (DV.v (Value.int IntKind.i64 a1_0))), (AV.d (DV.v (Value.int IntKind.i64 a1_1)))]), (AV.agg [(AV.d (DV.v (Value.int IntKind.i64 a2_0))), (AV.d (DV.v (Value.int IntKind.i64 a2_1)))]), (AV.d (DV.lst 5 a3))]
end law14_GhostStays
/-! garrison/garrisonlaw14.GhostOrder -/
namespace law14_GhostOrder
abbrev sh : List Sh := [.one (.bool)]
noncomputable abbrev R (a0 : List (List DV)) (a1_0 : Int) (a1_1 : Int) (a2_0 : Int) (a2_1 : Int) (a3_0 : Int) (a3_1 : Int) : Option (Bool × Unit) := retω cfg sh 6 [(AV.d (DV.lst 5 a0)), (AV.agg [(AV.d (DV.v (Value.int IntKind.i64 a1_0))), (AV.d (DV.v (Value.int IntKind.i64 a1_1)))]), (AV.agg [(AV.d (DV.v (Value.int IntKind.i64 a2_0))), (AV.d (DV.v (Value.int IntKind.i64 a2_1)))]), (AV.agg [(AV.d (DV.v (Value.int IntKind.i64 a3_0))), (AV.d (DV.v (Value.int IntKind.i64 a3_1)))])]
end law14_GhostOrder
/-! garrison/garrisonlaw14.GhostParts -/
namespace law14_GhostParts
abbrev sh : List Sh := [.one (.bool)]
noncomputable abbrev R (a0 : List (List DV)) (a1 : List (List DV)) : Option (Bool × Unit) := retω cfg sh 7 [(AV.d (DV.lst 5 a0)), (AV.d (DV.lst 5 a1))]
end law14_GhostParts
/-! garrison/garrisonlaw14.small -/
namespace law14_small
abbrev sh : List Sh := [.one (.bool)]
noncomputable abbrev R (a0_0 : List (List DV)) (a0_1 : List (List DV)) (a0_2 : List (List DV)) : Option (Bool × Unit) := retω cfg sh 17 [(AV.agg [(AV.d (DV.lst 2 a0_0)), (AV.d (DV.lst 1 a0_1)), (AV.d (DV.lst 1 a0_2))])]
end law14_small
/-! garrison/garrisonlaw14.live -/
namespace law14_live
abbrev sh : List Sh := [.one (.bool)]
noncomputable abbrev R : Option (Bool × Unit) := retω cfg sh 18 []
end law14_live
/-! garrison/ghost.Add -/
namespace ghost_Add
abbrev sh : List Sh := [.agg [.lst 2, .lst 1, .lst 1], .one (.int .i64)]
noncomputable abbrev R (a0_0 : List (List DV)) (a0_1 : List (List DV)) (a0_2 : List (List DV)) (a1_0 : Int) (a1_1 : Int) (a1_2 : Int) (a1_3 : Int) (a1_4 : Int) : Option ((List (List DV) × (List (List DV) × (List (List DV) × Unit))) × (Int × Unit)) := retω cfg sh 19 [(AV.agg [(AV.d (DV.lst 2 a0_0)), (AV.d (DV.lst 1 a0_1)), (AV.d (DV.lst 1 a0_2))]), (AV.agg [(AV.d (DV.v (Value.int IntKind.i64 a1_0))), (AV.d (DV.v (Value.int IntKind.i64 a1_1))), (AV.d (DV.v (Value.int IntKind.i64 a1_2))), (AV.d (DV.v (Value.int IntKind.i64 a1_3))), (AV.d (DV.v (Value.int IntKind.i64 a1_4)))])]
end ghost_Add
/-! garrison/garrisonref14.Add -/
namespace ref14_Add
abbrev sh : List Sh := [.agg [.lst 2, .lst 1, .lst 1], .one (.int .i64)]
noncomputable abbrev R (a0_0 : List (List DV)) (a0_1 : List (List DV)) (a0_2 : List (List DV)) (a1_0 : Int) (a1_1 : Int) (a1_2 : Int) (a1_3 : Int) (a1_4 : Int) : Option ((List (List DV) × (List (List DV) × (List (List DV) × Unit))) × (Int × Unit)) := retω cfg sh 20 [(AV.agg [(AV.d (DV.lst 2 a0_0)), (AV.d (DV.lst 1 a0_1)), (AV.d (DV.lst 1 a0_2))]), (AV.agg [(AV.d (DV.v (Value.int IntKind.i64 a1_0))), (AV.d (DV.v (Value.int IntKind.i64 a1_1))), (AV.d (DV.v (Value.int IntKind.i64 a1_2))), (AV.d (DV.v (Value.int IntKind.i64 a1_3))), (AV.d (DV.v (Value.int IntKind.i64 a1_4)))])]
end ref14_Add
/-! garrison/garrisonref14.Same -/
namespace ref14_Same
abbrev sh : List Sh := [.one (.bool)]
noncomputable abbrev R (a0_0 : List (List DV)) (a0_1 : List (List DV)) (a0_2 : List (List DV)) (a1_0 : List (List DV)) (a1_1 : List (List DV)) (a1_2 : List (List DV)) : Option (Bool × Unit) := retω cfg sh 21 [(AV.agg [(AV.d (DV.lst 2 a0_0)), (AV.d (DV.lst 1 a0_1)), (AV.d (DV.lst 1 a0_2))]), (AV.agg [(AV.d (DV.lst 2 a1_0)), (AV.d (DV.lst 1 a1_1)), (AV.d (DV.lst 1 a1_2))])]
end ref14_Same
/-! garrison/garrisonlaw14.num -/
namespace law14_num
abbrev sh : List Sh := [.one (.int .i64)]
noncomputable abbrev R (a0 : Int) : Option (Int × Unit) := retω cfg sh 22 [(AV.d (DV.v (Value.int IntKind.i64 a0)))]
end law14_num
/-! garrison/ghost.Check -/
namespace ghost_Check
abbrev sh : List Sh := [.one (.int .i64)]
noncomputable abbrev R (a0_0 : List (List DV)) (a0_1 : List (List DV)) (a0_2 : List (List DV)) : Option (Int × Unit) := retω cfg sh 23 [(AV.agg [(AV.d (DV.lst 2 a0_0)), (AV.d (DV.lst 1 a0_1)), (AV.d (DV.lst 1 a0_2))])]
end ghost_Check
/-! garrison/garrisonref14.Is -/
namespace ref14_Is
abbrev sh : List Sh := [.one (.bool)]
noncomputable abbrev R (a0_0 : List (List DV)) (a0_1 : List (List DV)) (a0_2 : List (List DV)) : Option (Bool × Unit) := retω cfg sh 24 [(AV.agg [(AV.d (DV.lst 2 a0_0)), (AV.d (DV.lst 1 a0_1)), (AV.d (DV.lst 1 a0_2))])]
end ref14_Is
/-! garrison/ghost.Same -/
namespace ghost_Same
abbrev sh : List Sh := [.one (.bool)]
noncomputable abbrev R (a0_0 : List (List DV)) (a0_1 : List (List DV)) (a0_2 : List (List DV)) (a1_0 : List (List DV)) (a1_1 : List (List DV)) (a1_2 : List (List DV)) : Option (Bool × Unit) := retω cfg sh 25 [(AV.agg [(AV.d (DV.lst 2 a0_0)), (AV.d (DV.lst 1 a0_1)), (AV.d (DV.lst 1 a0_2))]), (AV.agg [(AV.d (DV.lst 2 a1_0)), (AV.d (DV.lst 1 a1_1)), (AV.d (DV.lst 1 a1_2))])]
end ghost_Same
/-! garrison/ghost.Run -/
namespace ghost_Run
abbrev sh : List Sh := [.agg [.lst 2, .lst 1, .lst 1], .one (.int .i64)]
noncomputable abbrev R (a0 : List (List DV)) : Option ((List (List DV) × (List (List DV) × (List (List DV) × Unit))) × (Int × Unit)) := retω cfg sh 26 [(AV.d (DV.lst 5 a0))]
end ghost_Run
/-! garrison/garrisonref14.Run -/
namespace ref14_Run
abbrev sh : List Sh := [.agg [.lst 2, .lst 1, .lst 1], .one (.int .i64)]
noncomputable abbrev R (a0 : List (List DV)) : Option ((List (List DV) × (List (List DV) × (List (List DV) × Unit))) × (Int × Unit)) := retω cfg sh 27 [(AV.d (DV.lst 5 a0))]
end ref14_Run
/-! garrison/ghost.Who -/
namespace ghost_Who
abbrev sh : List Sh := [.one (.int .i64), .one (.bool)]
noncomputable abbrev R (a0_0 : List (List DV)) (a0_1 : List (List DV)) (a0_2 : List (List DV)) (a1_0 : Int) (a1_1 : Int) : Option (Int × (Bool × Unit)) := retω cfg sh 28 [(AV.agg [(AV.d (DV.lst 2 a0_0)), (AV.d (DV.lst 1 a0_1)), (AV.d (DV.lst 1 a0_2))]), (AV.agg [(AV.d (DV.v (Value.int IntKind.i64 a1_0))), (AV.d (DV.v (Value.int IntKind.i64 a1_1)))])]
end ghost_Who
/-! garrison/ghost.Descends -/
namespace ghost_Descends
abbrev sh : List Sh := [.one (.bool)]
noncomputable abbrev R (a0_0 : List (List DV)) (a0_1 : List (List DV)) (a0_2 : List (List DV)) (a1_0 : Int) (a1_1 : Int) (a2_0 : Int) (a2_1 : Int) : Option (Bool × Unit) := retω cfg sh 29 [(AV.agg [(AV.d (DV.lst 2 a0_0)), (AV.d (DV.lst 1 a0_1)), (AV.d (DV.lst 1 a0_2))]), (AV.agg [(AV.d (DV.v (Value.int IntKind.i64 a1_0))), (AV.d (DV.v (Value.int IntKind.i64 a1_1)))]), (AV.agg [(AV.d (DV.v (Value.int IntKind.i64 a2_0))), (AV.d (DV.v (Value.int IntKind.i64 a2_1)))])]
end ghost_Descends
/-! garrison/ghost.Above -/
namespace ghost_Above
abbrev sh : List Sh := [.one (.lst 1)]
noncomputable abbrev R (a0_0 : List (List DV)) (a0_1 : List (List DV)) (a0_2 : List (List DV)) (a1 : Int) : Option (List (List DV) × Unit) := retω cfg sh 30 [(AV.agg [(AV.d (DV.lst 2 a0_0)), (AV.d (DV.lst 1 a0_1)), (AV.d (DV.lst 1 a0_2))]), (AV.d (DV.v (Value.int IntKind.i64 a1)))]
end ghost_Above
/-! garrison/ghost.isBirth -/
namespace ghost_isBirth
abbrev sh : List Sh := [.one (.bool)]
noncomputable abbrev R (a0_0 : Int) (a0_1 : Int) (a0_2 : Int) (a0_3 : Int) (a0_4 : Int) : Option (Bool × Unit) := retω cfg sh 56 [(AV.agg [(AV.d (DV.v (Value.int IntKind.i64 a0_0))), (AV.d (DV.v (Value.int IntKind.i64 a0_1))), (AV.d (DV.v (Value.int IntKind.i64 a0_2))), (AV.d (DV.v (Value.int IntKind.i64 a0_3))), (AV.d (DV.v (Value.int IntKind.i64 a0_4)))])]
end ghost_isBirth
/-! slices.Index[[]garrison/api.Key,garrison/api.Key] -/
namespace slices_Index_api_Key_api_Key
abbrev sh : List Sh := [.one (.int .i64)]
noncomputable abbrev R (a0 : List (List DV)) (a1_0 : Int) (a1_1 : Int) : Option (Int × Unit) := retω cfg sh 57 [(AV.d (DV.lst 2 a0)), (AV.agg [(AV.d (DV.v (Value.int IntKind.i64 a1_0))), (AV.d (DV.v (Value.int IntKind.i64 a1_1)))])]
end slices_Index_api_Key_api_Key
/-! garrison/ghost.born -/
namespace ghost_born
abbrev sh : List Sh := [.agg [.lst 2, .lst 1, .lst 1], .one (.int .i64)]
noncomputable abbrev R (a0_0 : List (List DV)) (a0_1 : List (List DV)) (a0_2 : List (List DV)) (a1_0 : Int) (a1_1 : Int) (a2 : Int) : Option ((List (List DV) × (List (List DV) × (List (List DV) × Unit))) × (Int × Unit)) := retω cfg sh 62 [(AV.agg [(AV.d (DV.lst 2 a0_0)), (AV.d (DV.lst 1 a0_1)), (AV.d (DV.lst 1 a0_2))]), (AV.agg [(AV.d (DV.v (Value.int IntKind.i64 a1_0))), (AV.d (DV.v (Value.int IntKind.i64 a1_1)))]), (AV.d (DV.v (Value.int IntKind.i64 a2)))]
end ghost_born
/-! garrison/garrisonref06.Is -/
namespace ref06_Is
abbrev sh : List Sh := [.one (.bool)]
noncomputable abbrev R (a0_0 : Int) (a0_1 : Int) : Option (Bool × Unit) := retω cfg sh 63 [(AV.agg [(AV.d (DV.v (Value.int IntKind.i64 a0_0))), (AV.d (DV.v (Value.int IntKind.i64 a0_1)))])]
end ref06_Is
/-! garrison/garrisonref14.find -/
namespace ref14_find
abbrev sh : List Sh := [.one (.int .i64)]
noncomputable abbrev R (a0_0 : List (List DV)) (a0_1 : List (List DV)) (a0_2 : List (List DV)) (a1_0 : Int) (a1_1 : Int) : Option (Int × Unit) := retω cfg sh 64 [(AV.agg [(AV.d (DV.lst 2 a0_0)), (AV.d (DV.lst 1 a0_1)), (AV.d (DV.lst 1 a0_2))]), (AV.agg [(AV.d (DV.v (Value.int IntKind.i64 a1_0))), (AV.d (DV.v (Value.int IntKind.i64 a1_1)))])]
end ref14_find
/-! garrison/garrisonref06.Same -/
namespace ref06_Same
abbrev sh : List Sh := [.one (.bool)]
noncomputable abbrev R (a0 : List (List DV)) (a1 : List (List DV)) : Option (Bool × Unit) := retω cfg sh 43 [(AV.d (DV.lst 2 a0)), (AV.d (DV.lst 2 a1))]
end ref06_Same
/-! garrison/garrisonref07.Ints -/
namespace ref07_Ints
abbrev sh : List Sh := [.one (.bool)]
noncomputable abbrev R (a0 : List (List DV)) (a1 : List (List DV)) : Option (Bool × Unit) := retω cfg sh 55 [(AV.d (DV.lst 1 a0)), (AV.d (DV.lst 1 a1))]
end ref07_Ints
/-! garrison/order.Check -/
namespace order_Check
abbrev sh : List Sh := [.one (.int .i64)]
noncomputable abbrev R (a0_0 : Int) (a0_1 : Int) : Option (Int × Unit) := retω cfg sh 65 [(AV.agg [(AV.d (DV.v (Value.int IntKind.i64 a0_0))), (AV.d (DV.v (Value.int IntKind.i64 a0_1)))])]
end order_Check
/-! slices.Equal[[]garrison/api.Key,garrison/api.Key] -/
namespace slices_Equal_api_Key_api_Key
abbrev sh : List Sh := [.one (.bool)]
noncomputable abbrev R (a0 : List (List DV)) (a1 : List (List DV)) : Option (Bool × Unit) := retω cfg sh 66 [(AV.d (DV.lst 2 a0)), (AV.d (DV.lst 2 a1))]
end slices_Equal_api_Key_api_Key
/-! slices.Equal[[]int,int] -/
namespace slices_Equal_int_int
abbrev sh : List Sh := [.one (.bool)]
noncomputable abbrev R (a0 : List (List DV)) (a1 : List (List DV)) : Option (Bool × Unit) := retω cfg sh 67 [(AV.d (DV.lst 1 a0)), (AV.d (DV.lst 1 a1))]
end slices_Equal_int_int
/-! slices.Contains[[]int,int] -/
namespace slices_Contains_int_int
abbrev sh : List Sh := [.one (.bool)]
noncomputable abbrev R (a0 : List (List DV)) (a1 : Int) : Option (Bool × Unit) := retω cfg sh 68 [(AV.d (DV.lst 1 a0)), (AV.d (DV.v (Value.int IntKind.i64 a1)))]
end slices_Contains_int_int
/-! slices.Index[[]int,int] -/
namespace slices_Index_int_int
abbrev sh : List Sh := [.one (.int .i64)]
noncomputable abbrev R (a0 : List (List DV)) (a1 : Int) : Option (Int × Unit) := retω cfg sh 86 [(AV.d (DV.lst 1 a0)), (AV.d (DV.v (Value.int IntKind.i64 a1)))]
end slices_Index_int_int
/-! garrison/garrisonlaw14.GhostSteps -/
namespace law14_GhostSteps
def lv : Live := []
theorem start (a0_0 : List (List DV)) (a0_1 : List (List DV)) (a0_2 : List (List DV)) (a1_0 : List (List DV)) (a1_1 : List (List DV)) (a1_2 : List (List DV)) (a2_0 : Int) (a2_1 : Int) (a2_2 : Int) (a2_3 : Int) (a2_4 : Int) (c : (Bool × Unit)) (h :
    optAll (law14_small.R a0_0 a0_1 a0_2) fun (c0 : (Bool × Unit)) =>
    cond ((!(c0).1)) (
      optAll (law14_live.R) fun (c1 : (Bool × Unit)) =>
      c = ((c1).1, ())) (
      optAll (law14_small.R a1_0 a1_1 a1_2) fun (c2 : (Bool × Unit)) =>
      cond ((!(c2).1)) (
        optAll (law14_live.R) fun (c3 : (Bool × Unit)) =>
        c = ((c3).1, ())) (
        optAll (ghost_Add.R a0_0 a0_1 a0_2 a2_0 a2_1 a2_2 a2_3 a2_4) fun (c4 : ((List (List DV) × (List (List DV) × (List (List DV) × Unit))) × (Int × Unit))) =>
        optAll (ref14_Add.R a0_0 a0_1 a0_2 a2_0 a2_1 a2_2 a2_3 a2_4) fun (c5 : ((List (List DV) × (List (List DV) × (List (List DV) × Unit))) × (Int × Unit))) =>
        optAll (ref14_Same.R ((c4).1).1 (((c4).1).2).1 ((((c4).1).2).2).1 ((c5).1).1 (((c5).1).2).1 ((((c5).1).2).2).1) fun (c6 : (Bool × Unit)) =>
        cond ((c6).1) (
          optAll (law14_num.R ((c4).2).1) fun (c7 : (Int × Unit)) =>
          cond (((c7).1 == ((c5).2).1)) (
            optAll (ghost_Check.R a0_0 a0_1 a0_2) fun (c8 : (Int × Unit)) =>
            optAll (law14_num.R (c8).1) fun (c9 : (Int × Unit)) =>
            optAll (ref14_Is.R a0_0 a0_1 a0_2) fun (c10 : (Bool × Unit)) =>
            cond ((((c9).1 == (0 : Int)) == (c10).1)) (
              optAll (ghost_Same.R a0_0 a0_1 a0_2 a1_0 a1_1 a1_2) fun (c11 : (Bool × Unit)) =>
              optAll (ref14_Same.R a0_0 a0_1 a0_2 a1_0 a1_1 a1_2) fun (c12 : (Bool × Unit)) =>
              cond (((c11).1 == (c12).1)) (
                optAll (law14_live.R) fun (c13 : (Bool × Unit)) =>
                c = ((c13).1, ())) (
                c = (false, ()))) (
              c = (false, ()))) (
            c = (false, ()))) (
          c = (false, ()))))) : R a0_0 a0_1 a0_2 a1_0 a1_1 a1_2 a2_0 a2_1 a2_2 a2_3 a2_4 = some c := start_rule (n := 400) (lv := lv) (noSum_ok _) (by kernel_rfl) h
end law14_GhostSteps
/-! garrison/garrisonlaw14.GhostRuns -/
namespace law14_GhostRuns
def lv : Live := []
theorem start (a0 : List (List DV)) (c : (Bool × Unit)) (h :
    cond (decide (((((a0).length : Nat) : Int) > (80 : Int)))) (
      optAll (law14_live.R) fun (c0 : (Bool × Unit)) =>
      c = ((c0).1, ())) (
      needs ((((a0).length * 40) ≤ 140737488355328) ∧ (((a0).length * 5) ≤ 140737488355328)) (
      optAll (ghost_Run.R ((a0).take ((a0).length))) fun (c1 : ((List (List DV) × (List (List DV) × (List (List DV) × Unit))) × (Int × Unit))) =>
      optAll (ref14_Run.R a0) fun (c2 : ((List (List DV) × (List (List DV) × (List (List DV) × Unit))) × (Int × Unit))) =>
      optAll (ref14_Same.R ((c1).1).1 (((c1).1).2).1 ((((c1).1).2).2).1 ((c2).1).1 (((c2).1).2).1 ((((c2).1).2).2).1) fun (c3 : (Bool × Unit)) =>
      cond ((c3).1) (
        cond ((((c1).2).1 == ((c2).2).1)) (
          optAll (ghost_Check.R ((c1).1).1 (((c1).1).2).1 ((((c1).1).2).2).1) fun (c4 : (Int × Unit)) =>
          optAll (law14_num.R (c4).1) fun (c5 : (Int × Unit)) =>
          cond (((c5).1 == (0 : Int))) (
            optAll (law14_live.R) fun (c6 : (Bool × Unit)) =>
            c = ((c6).1, ())) (
            c = (false, ()))) (
          c = (false, ()))) (
        c = (false, ()))))) : R a0 = some c := start_rule (n := 400) (lv := lv) (noSum_ok _) (by kernel_rfl) h
end law14_GhostRuns
/-! garrison/garrisonlaw14.GhostStays -/
namespace law14_GhostStays
def lv : Live := [((11, 1048576), [3, 5, 6, 9, 15, 16], [157, 173, 413])]
abbrev H11 (x3 : List (List DV)) (x15 : Bool) (x16 : Int) (b157 : Int) (b157_1 : Int) (b173 : Int) (b173_1 : Int) (b413 : List (List DV)) (b413_1 : List (List DV)) (b413_2 : List (List DV)) (c : (Bool × Unit)) : Prop := HeadAns cfg 5 sh lv (bd cfg 5 [1, 1, 1, 1, 1, 1, 1, 0, 1, 0, 0]) 1048576 [.inBlock 0, .code (bd cfg 5 [1, 1, 1, 1, 1, 1, 1, 1])]
  [(AV.d (DV.lst 5 x3)), (AV.ptr 157 0 0 0), (AV.ptr 173 0 0 0), (AV.ptr 413 0 0 0), (AV.d (DV.v (Value.bool x15))), (AV.d (DV.v (Value.int IntKind.i64 x16)))] [(Option.some (VBlk.cell 2 0 [(AV.d (DV.v (Value.int IntKind.i64 b157))), (AV.d (DV.v (Value.int IntKind.i64 b157_1)))])), (Option.some (VBlk.cell 2 0 [(AV.d (DV.v (Value.int IntKind.i64 b173))), (AV.d (DV.v (Value.int IntKind.i64 b173_1)))])), (Option.some (VBlk.cell 3 0 [(AV.d (DV.lst 2 b413)), (AV.d (DV.lst 1 b413_1)), (AV.d (DV.lst 1 b413_2))]))] 1048576 c
theorem start (a0 : List (List DV)) (a1_0 : Int) (a1_1 : Int) (a2_0 : Int) (a2_1 : Int) (a3 : List (List DV)) (c : (Bool × Unit)) (h :
    cond (decide (((((a0).length : Nat) : Int) > (80 : Int)))) (
      optAll (law14_live.R) fun (c0 : (Bool × Unit)) =>
      c = ((c0).1, ())) (
      cond (decide (((((a3).length : Nat) : Int) > (80 : Int)))) (
        optAll (law14_live.R) fun (c1 : (Bool × Unit)) =>
        c = ((c1).1, ())) (
        optAll (ghost_Run.R a0) fun (c2 : ((List (List DV) × (List (List DV) × (List (List DV) × Unit))) × (Int × Unit))) =>
        optAll (ghost_Who.R ((c2).1).1 (((c2).1).2).1 ((((c2).1).2).2).1 a1_0 a1_1) fun (c3 : (Int × (Bool × Unit))) =>
        optAll (ghost_Who.R ((c2).1).1 (((c2).1).2).1 ((((c2).1).2).2).1 a2_0 a2_1) fun (c4 : (Int × (Bool × Unit))) =>
        cond ((!((c3).2).1)) (
          optAll (ghost_Descends.R ((c2).1).1 (((c2).1).2).1 ((((c2).1).2).2).1 a1_0 a1_1 a2_0 a2_1) fun (c5 : (Bool × Unit)) =>
          cond ((!(c5).1)) (
            optAll (law14_live.R) fun (c6 : (Bool × Unit)) =>
            c = ((c6).1, ())) (
            c = (false, ()))) (
          cond ((!((c4).2).1)) (
            optAll (ghost_Descends.R ((c2).1).1 (((c2).1).2).1 ((((c2).1).2).2).1 a1_0 a1_1 a2_0 a2_1) fun (c7 : (Bool × Unit)) =>
            cond ((!(c7).1)) (
              optAll (law14_live.R) fun (c8 : (Bool × Unit)) =>
              c = ((c8).1, ())) (
              c = (false, ()))) (
            optAll (ghost_Descends.R ((c2).1).1 (((c2).1).2).1 ((((c2).1).2).2).1 a1_0 a1_1 a2_0 a2_1) fun (c9 : (Bool × Unit)) =>
            H11 a3 (c9).1 (0 : Int) a1_0 a1_1 a2_0 a2_1 ((c2).1).1 (((c2).1).2).1 ((((c2).1).2).2).1 c))))) : R a0 a1_0 a1_1 a2_0 a2_1 a3 = some c := start_rule (n := 400) (lv := lv) (noSum_ok _) (by kernel_rfl) h
theorem H11_step (x3 : List (List DV)) (x15 : Bool) (x16 : Int) (b157 : Int) (b157_1 : Int) (b173 : Int) (b173_1 : Int) (b413 : List (List DV)) (b413_1 : List (List DV)) (b413_2 : List (List DV)) (c : (Bool × Unit)) (h :
    cond (decide ((x16 < (((x3).length : Nat) : Int)))) (
      needs ((0 : Int) ≤ x16) (
      optAll ((x3)[(Int.toNat x16)]?) fun (r10 : List DV) =>
      optAll ((dInt IntKind.i64 r10 0)) fun (z11 : Int) =>
      optAll ((dInt IntKind.i64 r10 1)) fun (z12 : Int) =>
      optAll ((dInt IntKind.i64 r10 2)) fun (z13 : Int) =>
      optAll ((dInt IntKind.i64 r10 3)) fun (z14 : Int) =>
      optAll ((dInt IntKind.i64 r10 4)) fun (z15 : Int) =>
      optAll (ghost_Add.R b413 b413_1 b413_2 z11 z12 z13 z14 z15) fun (c16 : ((List (List DV) × (List (List DV) × (List (List DV) × Unit))) × (Int × Unit))) =>
      optAll (law14_num.R ((c16).2).1) fun (c17 : (Int × Unit)) =>
      cond (((c17).1 != (0 : Int))) (
        H11 x3 x15 (IntKind.i64.wrap (x16 + (1 : Int))) b157 b157_1 b173 b173_1 ((c16).1).1 (((c16).1).2).1 ((((c16).1).2).2).1 c) (
        needs ((0 : Int) ≤ x16) (
        optAll ((x3)[(Int.toNat x16)]?) fun (r18 : List DV) =>
        optAll ((dInt IntKind.i64 r18 0)) fun (z19 : Int) =>
        cond ((z19 == (4 : Int))) (
          needs ((0 : Int) ≤ x16) (
          optAll ((x3)[(Int.toNat x16)]?) fun (r20 : List DV) =>
          optAll ((dInt IntKind.i64 r20 1)) fun (z21 : Int) =>
          optAll ((dInt IntKind.i64 r20 2)) fun (z22 : Int) =>
          cond (((z21 == b157) && ((z22 == b157_1) && true))) (
            optAll (ghost_Descends.R ((c16).1).1 (((c16).1).2).1 ((((c16).1).2).2).1 b157 b157_1 b173 b173_1) fun (c23 : (Bool × Unit)) =>
            cond ((!(c23).1)) (
              optAll (law14_live.R) fun (c24 : (Bool × Unit)) =>
              c = ((c24).1, ())) (
              c = (false, ()))) (
            needs ((0 : Int) ≤ x16) (
            optAll ((x3)[(Int.toNat x16)]?) fun (r25 : List DV) =>
            optAll ((dInt IntKind.i64 r25 1)) fun (z26 : Int) =>
            optAll ((dInt IntKind.i64 r25 2)) fun (z27 : Int) =>
            cond (((z26 == b173) && ((z27 == b173_1) && true))) (
              optAll (ghost_Descends.R ((c16).1).1 (((c16).1).2).1 ((((c16).1).2).2).1 b157 b157_1 b173 b173_1) fun (c28 : (Bool × Unit)) =>
              cond ((!(c28).1)) (
                optAll (law14_live.R) fun (c29 : (Bool × Unit)) =>
                c = ((c29).1, ())) (
                c = (false, ()))) (
              needs ((0 : Int) ≤ x16) (
              optAll ((x3)[(Int.toNat x16)]?) fun (r30 : List DV) =>
              optAll ((dInt IntKind.i64 r30 0)) fun (z31 : Int) =>
              cond ((z31 == (3 : Int))) (
                needs ((0 : Int) ≤ x16) (
                optAll ((x3)[(Int.toNat x16)]?) fun (r32 : List DV) =>
                optAll ((dInt IntKind.i64 r32 3)) fun (z33 : Int) =>
                optAll ((dInt IntKind.i64 r32 4)) fun (z34 : Int) =>
                cond (((z33 == b157) && ((z34 == b157_1) && true))) (
                  needs ((0 : Int) ≤ x16) (
                  optAll ((x3)[(Int.toNat x16)]?) fun (r35 : List DV) =>
                  optAll ((dInt IntKind.i64 r35 1)) fun (z36 : Int) =>
                  optAll ((dInt IntKind.i64 r35 2)) fun (z37 : Int) =>
                  cond (((b157 == b173) && ((b157_1 == b173_1) && true))) (
                    optAll (ghost_Descends.R ((c16).1).1 (((c16).1).2).1 ((((c16).1).2).2).1 z36 z37 z36 z37) fun (c38 : (Bool × Unit)) =>
                    cond ((!((c38).1 == x15))) (
                      c = (false, ())) (
                      H11 x3 x15 (IntKind.i64.wrap (x16 + (1 : Int))) z36 z37 z36 z37 ((c16).1).1 (((c16).1).2).1 ((((c16).1).2).2).1 c)) (
                    needs ((0 : Int) ≤ x16) (
                    optAll ((x3)[(Int.toNat x16)]?) fun (r39 : List DV) =>
                    optAll ((dInt IntKind.i64 r39 3)) fun (z40 : Int) =>
                    optAll ((dInt IntKind.i64 r39 4)) fun (z41 : Int) =>
                    cond (((z40 == b173) && ((z41 == b173_1) && true))) (
                      needs ((0 : Int) ≤ x16) (
                      optAll ((x3)[(Int.toNat x16)]?) fun (r42 : List DV) =>
                      optAll ((dInt IntKind.i64 r42 1)) fun (z43 : Int) =>
                      optAll ((dInt IntKind.i64 r42 2)) fun (z44 : Int) =>
                      optAll (ghost_Descends.R ((c16).1).1 (((c16).1).2).1 ((((c16).1).2).2).1 z36 z37 z43 z44) fun (c45 : (Bool × Unit)) =>
                      cond ((!((c45).1 == x15))) (
                        c = (false, ())) (
                        H11 x3 x15 (IntKind.i64.wrap (x16 + (1 : Int))) z36 z37 z43 z44 ((c16).1).1 (((c16).1).2).1 ((((c16).1).2).2).1 c))) (
                      optAll (ghost_Descends.R ((c16).1).1 (((c16).1).2).1 ((((c16).1).2).2).1 z36 z37 b173 b173_1) fun (c46 : (Bool × Unit)) =>
                      cond ((!((c46).1 == x15))) (
                        c = (false, ())) (
                        H11 x3 x15 (IntKind.i64.wrap (x16 + (1 : Int))) z36 z37 b173 b173_1 ((c16).1).1 (((c16).1).2).1 ((((c16).1).2).2).1 c)))))) (
                  cond (((b157 == b173) && ((b157_1 == b173_1) && true))) (
                    optAll (ghost_Descends.R ((c16).1).1 (((c16).1).2).1 ((((c16).1).2).2).1 b157 b157_1 b157 b157_1) fun (c47 : (Bool × Unit)) =>
                    cond ((!((c47).1 == x15))) (
                      c = (false, ())) (
                      H11 x3 x15 (IntKind.i64.wrap (x16 + (1 : Int))) b157 b157_1 b157 b157_1 ((c16).1).1 (((c16).1).2).1 ((((c16).1).2).2).1 c)) (
                    needs ((0 : Int) ≤ x16) (
                    optAll ((x3)[(Int.toNat x16)]?) fun (r48 : List DV) =>
                    optAll ((dInt IntKind.i64 r48 3)) fun (z49 : Int) =>
                    optAll ((dInt IntKind.i64 r48 4)) fun (z50 : Int) =>
                    cond (((z49 == b173) && ((z50 == b173_1) && true))) (
                      needs ((0 : Int) ≤ x16) (
                      optAll ((x3)[(Int.toNat x16)]?) fun (r51 : List DV) =>
                      optAll ((dInt IntKind.i64 r51 1)) fun (z52 : Int) =>
                      optAll ((dInt IntKind.i64 r51 2)) fun (z53 : Int) =>
                      optAll (ghost_Descends.R ((c16).1).1 (((c16).1).2).1 ((((c16).1).2).2).1 b157 b157_1 z52 z53) fun (c54 : (Bool × Unit)) =>
                      cond ((!((c54).1 == x15))) (
                        c = (false, ())) (
                        H11 x3 x15 (IntKind.i64.wrap (x16 + (1 : Int))) b157 b157_1 z52 z53 ((c16).1).1 (((c16).1).2).1 ((((c16).1).2).2).1 c))) (
                      optAll (ghost_Descends.R ((c16).1).1 (((c16).1).2).1 ((((c16).1).2).2).1 b157 b157_1 b173 b173_1) fun (c55 : (Bool × Unit)) =>
                      cond ((!((c55).1 == x15))) (
                        c = (false, ())) (
                        H11 x3 x15 (IntKind.i64.wrap (x16 + (1 : Int))) b157 b157_1 b173 b173_1 ((c16).1).1 (((c16).1).2).1 ((((c16).1).2).2).1 c))))))) (
                optAll (ghost_Descends.R ((c16).1).1 (((c16).1).2).1 ((((c16).1).2).2).1 b157 b157_1 b173 b173_1) fun (c56 : (Bool × Unit)) =>
                cond ((!((c56).1 == x15))) (
                  c = (false, ())) (
                  H11 x3 x15 (IntKind.i64.wrap (x16 + (1 : Int))) b157 b157_1 b173 b173_1 ((c16).1).1 (((c16).1).2).1 ((((c16).1).2).2).1 c)))))))) (
          needs ((0 : Int) ≤ x16) (
          optAll ((x3)[(Int.toNat x16)]?) fun (r57 : List DV) =>
          optAll ((dInt IntKind.i64 r57 0)) fun (z58 : Int) =>
          cond ((z58 == (3 : Int))) (
            needs ((0 : Int) ≤ x16) (
            optAll ((x3)[(Int.toNat x16)]?) fun (r59 : List DV) =>
            optAll ((dInt IntKind.i64 r59 3)) fun (z60 : Int) =>
            optAll ((dInt IntKind.i64 r59 4)) fun (z61 : Int) =>
            cond (((z60 == b157) && ((z61 == b157_1) && true))) (
              needs ((0 : Int) ≤ x16) (
              optAll ((x3)[(Int.toNat x16)]?) fun (r62 : List DV) =>
              optAll ((dInt IntKind.i64 r62 1)) fun (z63 : Int) =>
              optAll ((dInt IntKind.i64 r62 2)) fun (z64 : Int) =>
              cond (((b157 == b173) && ((b157_1 == b173_1) && true))) (
                optAll (ghost_Descends.R ((c16).1).1 (((c16).1).2).1 ((((c16).1).2).2).1 z63 z64 z63 z64) fun (c65 : (Bool × Unit)) =>
                cond ((!((c65).1 == x15))) (
                  c = (false, ())) (
                  H11 x3 x15 (IntKind.i64.wrap (x16 + (1 : Int))) z63 z64 z63 z64 ((c16).1).1 (((c16).1).2).1 ((((c16).1).2).2).1 c)) (
                needs ((0 : Int) ≤ x16) (
                optAll ((x3)[(Int.toNat x16)]?) fun (r66 : List DV) =>
                optAll ((dInt IntKind.i64 r66 3)) fun (z67 : Int) =>
                optAll ((dInt IntKind.i64 r66 4)) fun (z68 : Int) =>
                cond (((z67 == b173) && ((z68 == b173_1) && true))) (
                  needs ((0 : Int) ≤ x16) (
                  optAll ((x3)[(Int.toNat x16)]?) fun (r69 : List DV) =>
                  optAll ((dInt IntKind.i64 r69 1)) fun (z70 : Int) =>
                  optAll ((dInt IntKind.i64 r69 2)) fun (z71 : Int) =>
                  optAll (ghost_Descends.R ((c16).1).1 (((c16).1).2).1 ((((c16).1).2).2).1 z63 z64 z70 z71) fun (c72 : (Bool × Unit)) =>
                  cond ((!((c72).1 == x15))) (
                    c = (false, ())) (
                    H11 x3 x15 (IntKind.i64.wrap (x16 + (1 : Int))) z63 z64 z70 z71 ((c16).1).1 (((c16).1).2).1 ((((c16).1).2).2).1 c))) (
                  optAll (ghost_Descends.R ((c16).1).1 (((c16).1).2).1 ((((c16).1).2).2).1 z63 z64 b173 b173_1) fun (c73 : (Bool × Unit)) =>
                  cond ((!((c73).1 == x15))) (
                    c = (false, ())) (
                    H11 x3 x15 (IntKind.i64.wrap (x16 + (1 : Int))) z63 z64 b173 b173_1 ((c16).1).1 (((c16).1).2).1 ((((c16).1).2).2).1 c)))))) (
              cond (((b157 == b173) && ((b157_1 == b173_1) && true))) (
                optAll (ghost_Descends.R ((c16).1).1 (((c16).1).2).1 ((((c16).1).2).2).1 b157 b157_1 b157 b157_1) fun (c74 : (Bool × Unit)) =>
                cond ((!((c74).1 == x15))) (
                  c = (false, ())) (
                  H11 x3 x15 (IntKind.i64.wrap (x16 + (1 : Int))) b157 b157_1 b157 b157_1 ((c16).1).1 (((c16).1).2).1 ((((c16).1).2).2).1 c)) (
                needs ((0 : Int) ≤ x16) (
                optAll ((x3)[(Int.toNat x16)]?) fun (r75 : List DV) =>
                optAll ((dInt IntKind.i64 r75 3)) fun (z76 : Int) =>
                optAll ((dInt IntKind.i64 r75 4)) fun (z77 : Int) =>
                cond (((z76 == b173) && ((z77 == b173_1) && true))) (
                  needs ((0 : Int) ≤ x16) (
                  optAll ((x3)[(Int.toNat x16)]?) fun (r78 : List DV) =>
                  optAll ((dInt IntKind.i64 r78 1)) fun (z79 : Int) =>
                  optAll ((dInt IntKind.i64 r78 2)) fun (z80 : Int) =>
                  optAll (ghost_Descends.R ((c16).1).1 (((c16).1).2).1 ((((c16).1).2).2).1 b157 b157_1 z79 z80) fun (c81 : (Bool × Unit)) =>
                  cond ((!((c81).1 == x15))) (
                    c = (false, ())) (
                    H11 x3 x15 (IntKind.i64.wrap (x16 + (1 : Int))) b157 b157_1 z79 z80 ((c16).1).1 (((c16).1).2).1 ((((c16).1).2).2).1 c))) (
                  optAll (ghost_Descends.R ((c16).1).1 (((c16).1).2).1 ((((c16).1).2).2).1 b157 b157_1 b173 b173_1) fun (c82 : (Bool × Unit)) =>
                  cond ((!((c82).1 == x15))) (
                    c = (false, ())) (
                    H11 x3 x15 (IntKind.i64.wrap (x16 + (1 : Int))) b157 b157_1 b173 b173_1 ((c16).1).1 (((c16).1).2).1 ((((c16).1).2).2).1 c))))))) (
            optAll (ghost_Descends.R ((c16).1).1 (((c16).1).2).1 ((((c16).1).2).2).1 b157 b157_1 b173 b173_1) fun (c83 : (Bool × Unit)) =>
            cond ((!((c83).1 == x15))) (
              c = (false, ())) (
              H11 x3 x15 (IntKind.i64.wrap (x16 + (1 : Int))) b157 b157_1 b173 b173_1 ((c16).1).1 (((c16).1).2).1 ((((c16).1).2).2).1 c)))))))) (
      optAll (law14_live.R) fun (c84 : (Bool × Unit)) =>
      c = ((c84).1, ()))) : H11 x3 x15 x16 b157 b157_1 b173 b173_1 b413 b413_1 b413_2 c := head_rule (n := 400) (noSum_ok _) (by kernel_rfl) h
end law14_GhostStays
/-! garrison/garrisonlaw14.GhostOrder -/
namespace law14_GhostOrder
def lv : Live := [((12, 1048576), [11, 13, 14], [])]
abbrev H12 (x11 : Int) (x13 : List (List DV)) (x14 : Int) (c : (Bool × Unit)) : Prop := HeadAns cfg 6 sh lv (bd cfg 6 [1, 1, 1, 1, 1, 1, 1, 0, 1, 0, 0]) 1048576 [.inBlock 0, .code (bd cfg 6 [1, 1, 1, 1, 1, 1, 1, 1])]
  [(AV.d (DV.v (Value.int IntKind.i64 x11))), (AV.d (DV.lst 1 x13)), (AV.d (DV.v (Value.int IntKind.i64 x14)))] [] 1048576 c
theorem start (a0 : List (List DV)) (a1_0 : Int) (a1_1 : Int) (a2_0 : Int) (a2_1 : Int) (a3_0 : Int) (a3_1 : Int) (c : (Bool × Unit)) (h :
    cond (decide (((((a0).length : Nat) : Int) > (80 : Int)))) (
      optAll (law14_live.R) fun (c0 : (Bool × Unit)) =>
      c = ((c0).1, ())) (
      optAll (ghost_Run.R a0) fun (c1 : ((List (List DV) × (List (List DV) × (List (List DV) × Unit))) × (Int × Unit))) =>
      optAll (ghost_Descends.R ((c1).1).1 (((c1).1).2).1 ((((c1).1).2).2).1 a1_0 a1_1 a1_0 a1_1) fun (c2 : (Bool × Unit)) =>
      cond ((c2).1) (
        c = (false, ())) (
        optAll (ghost_Descends.R ((c1).1).1 (((c1).1).2).1 ((((c1).1).2).2).1 a1_0 a1_1 a2_0 a2_1) fun (c3 : (Bool × Unit)) =>
        cond ((c3).1) (
          optAll (ghost_Descends.R ((c1).1).1 (((c1).1).2).1 ((((c1).1).2).2).1 a2_0 a2_1 a1_0 a1_1) fun (c4 : (Bool × Unit)) =>
          cond ((c4).1) (
            c = (false, ())) (
            optAll (ghost_Descends.R ((c1).1).1 (((c1).1).2).1 ((((c1).1).2).2).1 a2_0 a2_1 a3_0 a3_1) fun (c5 : (Bool × Unit)) =>
            cond ((c5).1) (
              optAll (ghost_Descends.R ((c1).1).1 (((c1).1).2).1 ((((c1).1).2).2).1 a1_0 a1_1 a3_0 a3_1) fun (c6 : (Bool × Unit)) =>
              cond ((!(c6).1)) (
                c = (false, ())) (
                optAll (ghost_Who.R ((c1).1).1 (((c1).1).2).1 ((((c1).1).2).2).1 a1_0 a1_1) fun (c7 : (Int × (Bool × Unit))) =>
                cond ((!((c7).2).1)) (
                  optAll (law14_live.R) fun (c8 : (Bool × Unit)) =>
                  c = ((c8).1, ())) (
                  optAll (ghost_Above.R ((c1).1).1 (((c1).1).2).1 ((((c1).1).2).2).1 (c7).1) fun (c9 : (List (List DV) × Unit)) =>
                  H12 (c7).1 (c9).1 (0 : Int) c))) (
              optAll (ghost_Who.R ((c1).1).1 (((c1).1).2).1 ((((c1).1).2).2).1 a1_0 a1_1) fun (c10 : (Int × (Bool × Unit))) =>
              cond ((!((c10).2).1)) (
                optAll (law14_live.R) fun (c11 : (Bool × Unit)) =>
                c = ((c11).1, ())) (
                optAll (ghost_Above.R ((c1).1).1 (((c1).1).2).1 ((((c1).1).2).2).1 (c10).1) fun (c12 : (List (List DV) × Unit)) =>
                H12 (c10).1 (c12).1 (0 : Int) c)))) (
          optAll (ghost_Who.R ((c1).1).1 (((c1).1).2).1 ((((c1).1).2).2).1 a1_0 a1_1) fun (c13 : (Int × (Bool × Unit))) =>
          cond ((!((c13).2).1)) (
            optAll (law14_live.R) fun (c14 : (Bool × Unit)) =>
            c = ((c14).1, ())) (
            optAll (ghost_Above.R ((c1).1).1 (((c1).1).2).1 ((((c1).1).2).2).1 (c13).1) fun (c15 : (List (List DV) × Unit)) =>
            H12 (c13).1 (c15).1 (0 : Int) c))))) : R a0 a1_0 a1_1 a2_0 a2_1 a3_0 a3_1 = some c := start_rule (n := 400) (lv := lv) (noSum_ok _) (by kernel_rfl) h
theorem H12_step (x11 : Int) (x13 : List (List DV)) (x14 : Int) (c : (Bool × Unit)) (h :
    cond (decide ((x14 < (((x13).length : Nat) : Int)))) (
      needs ((0 : Int) ≤ x14) (
      optAll ((x13)[(Int.toNat x14)]?) fun (r16 : List DV) =>
      optAll ((dInt IntKind.i64 r16 0)) fun (z17 : Int) =>
      cond (decide ((z17 ≥ x11))) (
        c = (false, ())) (
        needs ((0 : Int) ≤ x14) (
        optAll ((x13)[(Int.toNat x14)]?) fun (r18 : List DV) =>
        optAll ((dInt IntKind.i64 r18 0)) fun (z19 : Int) =>
        H12 z19 x13 (IntKind.i64.wrap (x14 + (1 : Int))) c)))) (
      optAll (law14_live.R) fun (c20 : (Bool × Unit)) =>
      c = ((c20).1, ()))) : H12 x11 x13 x14 c := head_rule (n := 400) (noSum_ok _) (by kernel_rfl) h
end law14_GhostOrder
/-! garrison/garrisonlaw14.GhostParts -/
namespace law14_GhostParts
def lv : Live := [((7, 1048576), [0, 1, 5, 6, 7, 8], [307])]
abbrev H7 (x0 : List (List DV)) (x1 : List (List DV)) (x6 : Int) (x7 : Int) (x8 : Int) (b307 : List (List DV)) (b307_1 : List (List DV)) (b307_2 : List (List DV)) (c : (Bool × Unit)) : Prop := HeadAns cfg 7 sh lv (bd cfg 7 [1, 1, 1, 1, 0, 1, 0, 0]) 1048576 [.inBlock 0, .code (bd cfg 7 [1, 1, 1, 1, 1])]
  [(AV.d (DV.lst 5 x0)), (AV.d (DV.lst 5 x1)), (AV.ptr 307 0 0 0), (AV.d (DV.v (Value.int IntKind.i64 x6))), (AV.d (DV.v (Value.int IntKind.i64 x7))), (AV.d (DV.v (Value.int IntKind.i64 x8)))] [(Option.some (VBlk.cell 3 0 [(AV.d (DV.lst 2 b307)), (AV.d (DV.lst 1 b307_1)), (AV.d (DV.lst 1 b307_2))]))] 1048576 c
theorem start (a0 : List (List DV)) (a1 : List (List DV)) (c : (Bool × Unit)) (h :
    cond (decide (((((a0).length : Nat) : Int) > (80 : Int)))) (
      optAll (law14_live.R) fun (c0 : (Bool × Unit)) =>
      c = ((c0).1, ())) (
      cond (decide (((((a1).length : Nat) : Int) > (80 : Int)))) (
        optAll (law14_live.R) fun (c1 : (Bool × Unit)) =>
        c = ((c1).1, ())) (
        optAll (ghost_Run.R a0) fun (c2 : ((List (List DV) × (List (List DV) × (List (List DV) × Unit))) × (Int × Unit))) =>
        H7 a0 a1 ((c2).2).1 (0 : Int) (0 : Int) ((c2).1).1 (((c2).1).2).1 ((((c2).1).2).2).1 c))) : R a0 a1 = some c := start_rule (n := 400) (lv := lv) (noSum_ok _) (by kernel_rfl) h
theorem H7_step (x0 : List (List DV)) (x1 : List (List DV)) (x6 : Int) (x7 : Int) (x8 : Int) (b307 : List (List DV)) (b307_1 : List (List DV)) (b307_2 : List (List DV)) (c : (Bool × Unit)) (h :
    cond (decide ((x8 < (((x1).length : Nat) : Int)))) (
      needs ((0 : Int) ≤ x8) (
      optAll ((x1)[(Int.toNat x8)]?) fun (r3 : List DV) =>
      optAll ((dInt IntKind.i64 r3 0)) fun (z4 : Int) =>
      optAll ((dInt IntKind.i64 r3 1)) fun (z5 : Int) =>
      optAll ((dInt IntKind.i64 r3 2)) fun (z6 : Int) =>
      optAll ((dInt IntKind.i64 r3 3)) fun (z7 : Int) =>
      optAll ((dInt IntKind.i64 r3 4)) fun (z8 : Int) =>
      optAll (ghost_Add.R b307 b307_1 b307_2 z4 z5 z6 z7 z8) fun (c9 : ((List (List DV) × (List (List DV) × (List (List DV) × Unit))) × (Int × Unit))) =>
      optAll (law14_num.R ((c9).2).1) fun (c10 : (Int × Unit)) =>
      cond (((c10).1 != (0 : Int))) (
        optAll (ghost_Same.R b307 b307_1 b307_2 ((c9).1).1 (((c9).1).2).1 ((((c9).1).2).2).1) fun (c11 : (Bool × Unit)) =>
        cond ((!(c11).1)) (
          c = (false, ())) (
          H7 x0 x1 x6 (IntKind.i64.wrap (x7 + (1 : Int))) (IntKind.i64.wrap (x8 + (1 : Int))) ((c9).1).1 (((c9).1).2).1 ((((c9).1).2).2).1 c)) (
        H7 x0 x1 x6 x7 (IntKind.i64.wrap (x8 + (1 : Int))) ((c9).1).1 (((c9).1).2).1 ((((c9).1).2).2).1 c))) (
      needs ((((x0).length * 40) ≤ 140737488355328) ∧ (((x0).length * 5) ≤ 140737488355328)) (
      needs ((x0).length = (x0).length) (
      needs (((((x0 ++ x1)).length * 40) ≤ 140737488355328) ∧ ((((x0 ++ x1)).length * 5) ≤ 140737488355328)) (
      optAll (ghost_Run.R (((x0 ++ x1)).take (((x0 ++ x1)).length))) fun (c12 : ((List (List DV) × (List (List DV) × (List (List DV) × Unit))) × (Int × Unit))) =>
      optAll (ghost_Same.R b307 b307_1 b307_2 ((c12).1).1 (((c12).1).2).1 ((((c12).1).2).2).1) fun (c13 : (Bool × Unit)) =>
      cond ((c13).1) (
        cond ((((c12).2).1 == (IntKind.i64.wrap (x6 + x7)))) (
          cond (decide (((((((c12).1).1).length : Nat) : Int) ≤ (((((((c12).1).2).2).1).length : Nat) : Int)))) (
            optAll (law14_live.R) fun (c14 : (Bool × Unit)) =>
            c = ((c14).1, ())) (
            c = (false, ()))) (
          c = (false, ()))) (
        c = (false, ()))))))) : H7 x0 x1 x6 x7 x8 b307 b307_1 b307_2 c := head_rule (n := 400) (noSum_ok _) (by kernel_rfl) h
end law14_GhostParts
/-! garrison/garrisonlaw14.small -/
namespace law14_small
def lv : Live := []
theorem start (a0_0 : List (List DV)) (a0_1 : List (List DV)) (a0_2 : List (List DV)) (c : (Bool × Unit)) (h :
    cond (decide (((((a0_0).length : Nat) : Int) ≤ (80 : Int)))) (
      cond (decide (((((a0_1).length : Nat) : Int) ≤ (80 : Int)))) (
        c = (decide (((((a0_2).length : Nat) : Int) ≤ (160 : Int))), ())) (
        c = (false, ()))) (
      c = (false, ()))) : R a0_0 a0_1 a0_2 = some c := start_rule (n := 400) (lv := lv) (noSum_ok _) (by kernel_rfl) h
end law14_small
/-! garrison/garrisonlaw14.live -/
namespace law14_live
theorem closed : R = some (true, ()) := ret_closed (n := 4000) (v := .d (.v (.bool true))) (by kernel_rfl) (by kernel_rfl)
end law14_live
/-! garrison/ghost.Add -/
namespace ghost_Add
def lv : Live := []
theorem start (a0_0 : List (List DV)) (a0_1 : List (List DV)) (a0_2 : List (List DV)) (a1_0 : Int) (a1_1 : Int) (a1_2 : Int) (a1_3 : Int) (a1_4 : Int) (c : ((List (List DV) × (List (List DV) × (List (List DV) × Unit))) × (Int × Unit))) (h :
    optAll (ghost_isBirth.R a1_0 a1_1 a1_2 a1_3 a1_4) fun (c0 : (Bool × Unit)) =>
    cond ((!(c0).1)) (
      c = ((a0_0, (a0_1, (a0_2, ()))), ((2 : Int), ()))) (
      optAll (ghost_Check.R a0_0 a0_1 a0_2) fun (c1 : (Int × Unit)) =>
      cond (((c1).1 != (0 : Int))) (
        c = ((a0_0, (a0_1, (a0_2, ()))), ((2 : Int), ()))) (
        optAll (slices_Index_api_Key_api_Key.R a0_0 a1_1 a1_2) fun (c2 : (Int × Unit)) =>
        optAll (slices_Index_api_Key_api_Key.R a0_0 a1_3 a1_4) fun (c3 : (Int × Unit)) =>
        cond ((a1_0 == (4 : Int))) (
          cond (decide (((c2).1 < (0 : Int)))) (
            c = ((a0_0, (a0_1, (a0_2, ()))), ((7 : Int), ()))) (
            needs ((((a0_0).length * 16) ≤ 140737488355328) ∧ (((a0_0).length * 2) ≤ 140737488355328)) (
            needs (((IntKind.i64.wrap ((c2).1 + (1 : Int))) ≤ (((a0_0).length : Nat) : Int)) ∧ ((((a0_0).length : Nat) : Int) ≤ ((((a0_0).length - 0) : Nat) : Int))) (
            needs (((0 : Int) ≤ (c2).1) ∧ (((c2).1 ≤ (IntKind.i64.wrap ((c2).1 + (1 : Int)))) ∧ ((IntKind.i64.wrap ((c2).1 + (1 : Int))) ≤ ((((a0_0).length - 0) : Nat) : Int)))) (
            needs (¬ (((Int.toNat (c2).1) = (Int.toNat (IntKind.i64.wrap ((c2).1 + (1 : Int))))) ∧ ((((a0_0).length : Nat) : Int) = (IntKind.i64.wrap ((c2).1 + (1 : Int)))))) (
            cond (((c2).1 == (IntKind.i64.wrap ((c2).1 + (1 : Int))))) (
              needs ((((a0_1).length * 8) ≤ 140737488355328) ∧ (((a0_1).length * 1) ≤ 140737488355328)) (
              needs (((IntKind.i64.wrap ((c2).1 + (1 : Int))) ≤ (((a0_1).length : Nat) : Int)) ∧ ((((a0_1).length : Nat) : Int) ≤ ((((a0_1).length - 0) : Nat) : Int))) (
              needs (((0 : Int) ≤ (c2).1) ∧ (((c2).1 ≤ (IntKind.i64.wrap ((c2).1 + (1 : Int)))) ∧ ((IntKind.i64.wrap ((c2).1 + (1 : Int))) ≤ ((((a0_1).length - 0) : Nat) : Int)))) (
              needs (¬ (((Int.toNat (c2).1) = (Int.toNat (IntKind.i64.wrap ((c2).1 + (1 : Int))))) ∧ ((((a0_1).length : Nat) : Int) = (IntKind.i64.wrap ((c2).1 + (1 : Int)))))) (
              cond (((c2).1 == (IntKind.i64.wrap ((c2).1 + (1 : Int))))) (
                c = ((((a0_0).take ((a0_0).length)), (((a0_1).take ((a0_1).length)), (a0_2, ()))), ((0 : Int), ()))) (
                needs (((0 : Int) ≤ (0 : Int)) ∧ (((0 : Int) ≤ (c2).1) ∧ ((c2).1 ≤ ((((a0_1).length - 0) : Nat) : Int)))) (
                needs (((0 : Int) ≤ (IntKind.i64.wrap ((c2).1 + (1 : Int)))) ∧ (((IntKind.i64.wrap ((c2).1 + (1 : Int))) ≤ (((a0_1).length : Nat) : Int)) ∧ ((((a0_1).length : Nat) : Int) ≤ ((((a0_1).length - 0) : Nat) : Int)))) (
                cond (decide (((0 = 0) ∧ (((Int.toNat (c2).1) - 0) = (a0_1).length)))) (
                  needs (((((a0_1 ++ ((((a0_1).drop ((0 + (Int.toNat (IntKind.i64.wrap ((c2).1 + (1 : Int)))))))).take (((Int.toNat (((a0_1).length : Nat) : Int)) - (Int.toNat (IntKind.i64.wrap ((c2).1 + (1 : Int))))))))).length * 8) ≤ 140737488355328) ∧ ((((a0_1 ++ ((((a0_1).drop ((0 + (Int.toNat (IntKind.i64.wrap ((c2).1 + (1 : Int)))))))).take (((Int.toNat (((a0_1).length : Nat) : Int)) - (Int.toNat (IntKind.i64.wrap ((c2).1 + (1 : Int))))))))).length * 1) ≤ 140737488355328)) (
                  needs (((0 : Int) ≤ ((((a0_1 ++ ((((a0_1).drop ((0 + (Int.toNat (IntKind.i64.wrap ((c2).1 + (1 : Int)))))))).take (((Int.toNat (((a0_1).length : Nat) : Int)) - (Int.toNat (IntKind.i64.wrap ((c2).1 + (1 : Int))))))))).length : Nat) : Int)) ∧ ((((((a0_1 ++ ((((a0_1).drop ((0 + (Int.toNat (IntKind.i64.wrap ((c2).1 + (1 : Int)))))))).take (((Int.toNat (((a0_1).length : Nat) : Int)) - (Int.toNat (IntKind.i64.wrap ((c2).1 + (1 : Int))))))))).length : Nat) : Int) ≤ (((a0_1).length : Nat) : Int)) ∧ ((((a0_1).length : Nat) : Int) ≤ (((((a0_1 ++ ((((a0_1).drop ((0 + (Int.toNat (IntKind.i64.wrap ((c2).1 + (1 : Int)))))))).take (((Int.toNat (((a0_1).length : Nat) : Int)) - (Int.toNat (IntKind.i64.wrap ((c2).1 + (1 : Int))))))))).length - 0) : Nat) : Int)))) (
                  c = ((((a0_0).take ((a0_0).length)), ((((overD (a0_1 ++ ((((a0_1).drop ((0 + (Int.toNat (IntKind.i64.wrap ((c2).1 + (1 : Int)))))))).take (((Int.toNat (((a0_1).length : Nat) : Int)) - (Int.toNat (IntKind.i64.wrap ((c2).1 + (1 : Int)))))))) (0 + (Int.toNat ((((a0_1 ++ ((((a0_1).drop ((0 + (Int.toNat (IntKind.i64.wrap ((c2).1 + (1 : Int)))))))).take (((Int.toNat (((a0_1).length : Nat) : Int)) - (Int.toNat (IntKind.i64.wrap ((c2).1 + (1 : Int))))))))).length : Nat) : Int))) (List.replicate (((Int.toNat (((a0_1).length : Nat) : Int)) - (Int.toNat ((((a0_1 ++ ((((a0_1).drop ((0 + (Int.toNat (IntKind.i64.wrap ((c2).1 + (1 : Int)))))))).take (((Int.toNat (((a0_1).length : Nat) : Int)) - (Int.toNat (IntKind.i64.wrap ((c2).1 + (1 : Int))))))))).length : Nat) : Int)))) [(DV.v (Value.int IntKind.i64 (0 : Int)))]))).take (((a0_1 ++ ((((a0_1).drop ((0 + (Int.toNat (IntKind.i64.wrap ((c2).1 + (1 : Int)))))))).take (((Int.toNat (((a0_1).length : Nat) : Int)) - (Int.toNat (IntKind.i64.wrap ((c2).1 + (1 : Int))))))))).length)), (a0_2, ()))), ((0 : Int), ()))))) (
                  needs (((0 + ((Int.toNat (c2).1) - 0)) + (((((a0_1).drop ((0 + (Int.toNat (IntKind.i64.wrap ((c2).1 + (1 : Int)))))))).take (((Int.toNat (((a0_1).length : Nat) : Int)) - (Int.toNat (IntKind.i64.wrap ((c2).1 + (1 : Int)))))))).length) ≤ (a0_1).length) (
                  needs (((0 : Int) ≤ (((((Int.toNat (c2).1) - 0) + (((((a0_1).drop ((0 + (Int.toNat (IntKind.i64.wrap ((c2).1 + (1 : Int)))))))).take (((Int.toNat (((a0_1).length : Nat) : Int)) - (Int.toNat (IntKind.i64.wrap ((c2).1 + (1 : Int)))))))).length) : Nat) : Int)) ∧ (((((((Int.toNat (c2).1) - 0) + (((((a0_1).drop ((0 + (Int.toNat (IntKind.i64.wrap ((c2).1 + (1 : Int)))))))).take (((Int.toNat (((a0_1).length : Nat) : Int)) - (Int.toNat (IntKind.i64.wrap ((c2).1 + (1 : Int)))))))).length) : Nat) : Int) ≤ (((a0_1).length : Nat) : Int)) ∧ ((((a0_1).length : Nat) : Int) ≤ (((((overD a0_1 (0 + ((Int.toNat (c2).1) - 0)) ((((a0_1).drop ((0 + (Int.toNat (IntKind.i64.wrap ((c2).1 + (1 : Int)))))))).take (((Int.toNat (((a0_1).length : Nat) : Int)) - (Int.toNat (IntKind.i64.wrap ((c2).1 + (1 : Int))))))))).length - 0) : Nat) : Int)))) (
                  c = ((((a0_0).take ((a0_0).length)), ((((overD (overD a0_1 (0 + ((Int.toNat (c2).1) - 0)) ((((a0_1).drop ((0 + (Int.toNat (IntKind.i64.wrap ((c2).1 + (1 : Int)))))))).take (((Int.toNat (((a0_1).length : Nat) : Int)) - (Int.toNat (IntKind.i64.wrap ((c2).1 + (1 : Int)))))))) (0 + (Int.toNat (((((Int.toNat (c2).1) - 0) + (((((a0_1).drop ((0 + (Int.toNat (IntKind.i64.wrap ((c2).1 + (1 : Int)))))))).take (((Int.toNat (((a0_1).length : Nat) : Int)) - (Int.toNat (IntKind.i64.wrap ((c2).1 + (1 : Int)))))))).length) : Nat) : Int))) (List.replicate (((Int.toNat (((a0_1).length : Nat) : Int)) - (Int.toNat (((((Int.toNat (c2).1) - 0) + (((((a0_1).drop ((0 + (Int.toNat (IntKind.i64.wrap ((c2).1 + (1 : Int)))))))).take (((Int.toNat (((a0_1).length : Nat) : Int)) - (Int.toNat (IntKind.i64.wrap ((c2).1 + (1 : Int)))))))).length) : Nat) : Int)))) [(DV.v (Value.int IntKind.i64 (0 : Int)))]))).take ((((Int.toNat (c2).1) - 0) + (((((a0_1).drop ((0 + (Int.toNat (IntKind.i64.wrap ((c2).1 + (1 : Int)))))))).take (((Int.toNat (((a0_1).length : Nat) : Int)) - (Int.toNat (IntKind.i64.wrap ((c2).1 + (1 : Int)))))))).length))), (a0_2, ()))), ((0 : Int), ()))))))))))))) (
              needs (((0 : Int) ≤ (0 : Int)) ∧ (((0 : Int) ≤ (c2).1) ∧ ((c2).1 ≤ ((((a0_0).length - 0) : Nat) : Int)))) (
              needs (((0 : Int) ≤ (IntKind.i64.wrap ((c2).1 + (1 : Int)))) ∧ (((IntKind.i64.wrap ((c2).1 + (1 : Int))) ≤ (((a0_0).length : Nat) : Int)) ∧ ((((a0_0).length : Nat) : Int) ≤ ((((a0_0).length - 0) : Nat) : Int)))) (
              cond (decide (((0 = 0) ∧ (((Int.toNat (c2).1) - 0) = (a0_0).length)))) (
                needs (((((a0_0 ++ ((((a0_0).drop ((0 + (Int.toNat (IntKind.i64.wrap ((c2).1 + (1 : Int)))))))).take (((Int.toNat (((a0_0).length : Nat) : Int)) - (Int.toNat (IntKind.i64.wrap ((c2).1 + (1 : Int))))))))).length * 16) ≤ 140737488355328) ∧ ((((a0_0 ++ ((((a0_0).drop ((0 + (Int.toNat (IntKind.i64.wrap ((c2).1 + (1 : Int)))))))).take (((Int.toNat (((a0_0).length : Nat) : Int)) - (Int.toNat (IntKind.i64.wrap ((c2).1 + (1 : Int))))))))).length * 2) ≤ 140737488355328)) (
                needs (((0 : Int) ≤ ((((a0_0 ++ ((((a0_0).drop ((0 + (Int.toNat (IntKind.i64.wrap ((c2).1 + (1 : Int)))))))).take (((Int.toNat (((a0_0).length : Nat) : Int)) - (Int.toNat (IntKind.i64.wrap ((c2).1 + (1 : Int))))))))).length : Nat) : Int)) ∧ ((((((a0_0 ++ ((((a0_0).drop ((0 + (Int.toNat (IntKind.i64.wrap ((c2).1 + (1 : Int)))))))).take (((Int.toNat (((a0_0).length : Nat) : Int)) - (Int.toNat (IntKind.i64.wrap ((c2).1 + (1 : Int))))))))).length : Nat) : Int) ≤ (((a0_0).length : Nat) : Int)) ∧ ((((a0_0).length : Nat) : Int) ≤ (((((a0_0 ++ ((((a0_0).drop ((0 + (Int.toNat (IntKind.i64.wrap ((c2).1 + (1 : Int)))))))).take (((Int.toNat (((a0_0).length : Nat) : Int)) - (Int.toNat (IntKind.i64.wrap ((c2).1 + (1 : Int))))))))).length - 0) : Nat) : Int)))) (
                needs ((((a0_1).length * 8) ≤ 140737488355328) ∧ (((a0_1).length * 1) ≤ 140737488355328)) (
                needs (((IntKind.i64.wrap ((c2).1 + (1 : Int))) ≤ (((a0_1).length : Nat) : Int)) ∧ ((((a0_1).length : Nat) : Int) ≤ ((((a0_1).length - 0) : Nat) : Int))) (
                needs (((0 : Int) ≤ (c2).1) ∧ (((c2).1 ≤ (IntKind.i64.wrap ((c2).1 + (1 : Int)))) ∧ ((IntKind.i64.wrap ((c2).1 + (1 : Int))) ≤ ((((a0_1).length - 0) : Nat) : Int)))) (
                needs (¬ (((Int.toNat (c2).1) = (Int.toNat (IntKind.i64.wrap ((c2).1 + (1 : Int))))) ∧ ((((a0_1).length : Nat) : Int) = (IntKind.i64.wrap ((c2).1 + (1 : Int)))))) (
                cond (((c2).1 == (IntKind.i64.wrap ((c2).1 + (1 : Int))))) (
                  c = (((((overD (a0_0 ++ ((((a0_0).drop ((0 + (Int.toNat (IntKind.i64.wrap ((c2).1 + (1 : Int)))))))).take (((Int.toNat (((a0_0).length : Nat) : Int)) - (Int.toNat (IntKind.i64.wrap ((c2).1 + (1 : Int)))))))) (0 + (Int.toNat ((((a0_0 ++ ((((a0_0).drop ((0 + (Int.toNat (IntKind.i64.wrap ((c2).1 + (1 : Int)))))))).take (((Int.toNat (((a0_0).length : Nat) : Int)) - (Int.toNat (IntKind.i64.wrap ((c2).1 + (1 : Int))))))))).length : Nat) : Int))) (List.replicate (((Int.toNat (((a0_0).length : Nat) : Int)) - (Int.toNat ((((a0_0 ++ ((((a0_0).drop ((0 + (Int.toNat (IntKind.i64.wrap ((c2).1 + (1 : Int)))))))).take (((Int.toNat (((a0_0).length : Nat) : Int)) - (Int.toNat (IntKind.i64.wrap ((c2).1 + (1 : Int))))))))).length : Nat) : Int)))) [(DV.v (Value.int IntKind.i64 (0 : Int))), (DV.v (Value.int IntKind.i64 (0 : Int)))]))).take (((a0_0 ++ ((((a0_0).drop ((0 + (Int.toNat (IntKind.i64.wrap ((c2).1 + (1 : Int)))))))).take (((Int.toNat (((a0_0).length : Nat) : Int)) - (Int.toNat (IntKind.i64.wrap ((c2).1 + (1 : Int))))))))).length)), (((a0_1).take ((a0_1).length)), (a0_2, ()))), ((0 : Int), ()))) (
                  needs (((0 : Int) ≤ (0 : Int)) ∧ (((0 : Int) ≤ (c2).1) ∧ ((c2).1 ≤ ((((a0_1).length - 0) : Nat) : Int)))) (
                  needs (((0 : Int) ≤ (IntKind.i64.wrap ((c2).1 + (1 : Int)))) ∧ (((IntKind.i64.wrap ((c2).1 + (1 : Int))) ≤ (((a0_1).length : Nat) : Int)) ∧ ((((a0_1).length : Nat) : Int) ≤ ((((a0_1).length - 0) : Nat) : Int)))) (
                  cond (decide (((0 = 0) ∧ (((Int.toNat (c2).1) - 0) = (a0_1).length)))) (
                    needs (((((a0_1 ++ ((((a0_1).drop ((0 + (Int.toNat (IntKind.i64.wrap ((c2).1 + (1 : Int)))))))).take (((Int.toNat (((a0_1).length : Nat) : Int)) - (Int.toNat (IntKind.i64.wrap ((c2).1 + (1 : Int))))))))).length * 8) ≤ 140737488355328) ∧ ((((a0_1 ++ ((((a0_1).drop ((0 + (Int.toNat (IntKind.i64.wrap ((c2).1 + (1 : Int)))))))).take (((Int.toNat (((a0_1).length : Nat) : Int)) - (Int.toNat (IntKind.i64.wrap ((c2).1 + (1 : Int))))))))).length * 1) ≤ 140737488355328)) (
                    needs (((0 : Int) ≤ ((((a0_1 ++ ((((a0_1).drop ((0 + (Int.toNat (IntKind.i64.wrap ((c2).1 + (1 : Int)))))))).take (((Int.toNat (((a0_1).length : Nat) : Int)) - (Int.toNat (IntKind.i64.wrap ((c2).1 + (1 : Int))))))))).length : Nat) : Int)) ∧ ((((((a0_1 ++ ((((a0_1).drop ((0 + (Int.toNat (IntKind.i64.wrap ((c2).1 + (1 : Int)))))))).take (((Int.toNat (((a0_1).length : Nat) : Int)) - (Int.toNat (IntKind.i64.wrap ((c2).1 + (1 : Int))))))))).length : Nat) : Int) ≤ (((a0_1).length : Nat) : Int)) ∧ ((((a0_1).length : Nat) : Int) ≤ (((((a0_1 ++ ((((a0_1).drop ((0 + (Int.toNat (IntKind.i64.wrap ((c2).1 + (1 : Int)))))))).take (((Int.toNat (((a0_1).length : Nat) : Int)) - (Int.toNat (IntKind.i64.wrap ((c2).1 + (1 : Int))))))))).length - 0) : Nat) : Int)))) (
                    c = (((((overD (a0_0 ++ ((((a0_0).drop ((0 + (Int.toNat (IntKind.i64.wrap ((c2).1 + (1 : Int)))))))).take (((Int.toNat (((a0_0).length : Nat) : Int)) - (Int.toNat (IntKind.i64.wrap ((c2).1 + (1 : Int)))))))) (0 + (Int.toNat ((((a0_0 ++ ((((a0_0).drop ((0 + (Int.toNat (IntKind.i64.wrap ((c2).1 + (1 : Int)))))))).take (((Int.toNat (((a0_0).length : Nat) : Int)) - (Int.toNat (IntKind.i64.wrap ((c2).1 + (1 : Int))))))))).length : Nat) : Int))) (List.replicate (((Int.toNat (((a0_0).length : Nat) : Int)) - (Int.toNat ((((a0_0 ++ ((((a0_0).drop ((0 + (Int.toNat (IntKind.i64.wrap ((c2).1 + (1 : Int)))))))).take (((Int.toNat (((a0_0).length : Nat) : Int)) - (Int.toNat (IntKind.i64.wrap ((c2).1 + (1 : Int))))))))).length : Nat) : Int)))) [(DV.v (Value.int IntKind.i64 (0 : Int))), (DV.v (Value.int IntKind.i64 (0 : Int)))]))).take (((a0_0 ++ ((((a0_0).drop ((0 + (Int.toNat (IntKind.i64.wrap ((c2).1 + (1 : Int)))))))).take (((Int.toNat (((a0_0).length : Nat) : Int)) - (Int.toNat (IntKind.i64.wrap ((c2).1 + (1 : Int))))))))).length)), ((((overD (a0_1 ++ ((((a0_1).drop ((0 + (Int.toNat (IntKind.i64.wrap ((c2).1 + (1 : Int)))))))).take (((Int.toNat (((a0_1).length : Nat) : Int)) - (Int.toNat (IntKind.i64.wrap ((c2).1 + (1 : Int)))))))) (0 + (Int.toNat ((((a0_1 ++ ((((a0_1).drop ((0 + (Int.toNat (IntKind.i64.wrap ((c2).1 + (1 : Int)))))))).take (((Int.toNat (((a0_1).length : Nat) : Int)) - (Int.toNat (IntKind.i64.wrap ((c2).1 + (1 : Int))))))))).length : Nat) : Int))) (List.replicate (((Int.toNat (((a0_1).length : Nat) : Int)) - (Int.toNat ((((a0_1 ++ ((((a0_1).drop ((0 + (Int.toNat (IntKind.i64.wrap ((c2).1 + (1 : Int)))))))).take (((Int.toNat (((a0_1).length : Nat) : Int)) - (Int.toNat (IntKind.i64.wrap ((c2).1 + (1 : Int))))))))).length : Nat) : Int)))) [(DV.v (Value.int IntKind.i64 (0 : Int)))]))).take (((a0_1 ++ ((((a0_1).drop ((0 + (Int.toNat (IntKind.i64.wrap ((c2).1 + (1 : Int)))))))).take (((Int.toNat (((a0_1).length : Nat) : Int)) - (Int.toNat (IntKind.i64.wrap ((c2).1 + (1 : Int))))))))).length)), (a0_2, ()))), ((0 : Int), ()))))) (
                    needs (((0 + ((Int.toNat (c2).1) - 0)) + (((((a0_1).drop ((0 + (Int.toNat (IntKind.i64.wrap ((c2).1 + (1 : Int)))))))).take (((Int.toNat (((a0_1).length : Nat) : Int)) - (Int.toNat (IntKind.i64.wrap ((c2).1 + (1 : Int)))))))).length) ≤ (a0_1).length) (
                    needs (((0 : Int) ≤ (((((Int.toNat (c2).1) - 0) + (((((a0_1).drop ((0 + (Int.toNat (IntKind.i64.wrap ((c2).1 + (1 : Int)))))))).take (((Int.toNat (((a0_1).length : Nat) : Int)) - (Int.toNat (IntKind.i64.wrap ((c2).1 + (1 : Int)))))))).length) : Nat) : Int)) ∧ (((((((Int.toNat (c2).1) - 0) + (((((a0_1).drop ((0 + (Int.toNat (IntKind.i64.wrap ((c2).1 + (1 : Int)))))))).take (((Int.toNat (((a0_1).length : Nat) : Int)) - (Int.toNat (IntKind.i64.wrap ((c2).1 + (1 : Int)))))))).length) : Nat) : Int) ≤ (((a0_1).length : Nat) : Int)) ∧ ((((a0_1).length : Nat) : Int) ≤ (((((overD a0_1 (0 + ((Int.toNat (c2).1) - 0)) ((((a0_1).drop ((0 + (Int.toNat (IntKind.i64.wrap ((c2).1 + (1 : Int)))))))).take (((Int.toNat (((a0_1).length : Nat) : Int)) - (Int.toNat (IntKind.i64.wrap ((c2).1 + (1 : Int))))))))).length - 0) : Nat) : Int)))) (
                    c = (((((overD (a0_0 ++ ((((a0_0).drop ((0 + (Int.toNat (IntKind.i64.wrap ((c2).1 + (1 : Int)))))))).take (((Int.toNat (((a0_0).length : Nat) : Int)) - (Int.toNat (IntKind.i64.wrap ((c2).1 + (1 : Int)))))))) (0 + (Int.toNat ((((a0_0 ++ ((((a0_0).drop ((0 + (Int.toNat (IntKind.i64.wrap ((c2).1 + (1 : Int)))))))).take (((Int.toNat (((a0_0).length : Nat) : Int)) - (Int.toNat (IntKind.i64.wrap ((c2).1 + (1 : Int))))))))).length : Nat) : Int))) (List.replicate (((Int.toNat (((a0_0).length : Nat) : Int)) - (Int.toNat ((((a0_0 ++ ((((a0_0).drop ((0 + (Int.toNat (IntKind.i64.wrap ((c2).1 + (1 : Int)))))))).take (((Int.toNat (((a0_0).length : Nat) : Int)) - (Int.toNat (IntKind.i64.wrap ((c2).1 + (1 : Int))))))))).length : Nat) : Int)))) [(DV.v (Value.int IntKind.i64 (0 : Int))), (DV.v (Value.int IntKind.i64 (0 : Int)))]))).take (((a0_0 ++ ((((a0_0).drop ((0 + (Int.toNat (IntKind.i64.wrap ((c2).1 + (1 : Int)))))))).take (((Int.toNat (((a0_0).length : Nat) : Int)) - (Int.toNat (IntKind.i64.wrap ((c2).1 + (1 : Int))))))))).length)), ((((overD (overD a0_1 (0 + ((Int.toNat (c2).1) - 0)) ((((a0_1).drop ((0 + (Int.toNat (IntKind.i64.wrap ((c2).1 + (1 : Int)))))))).take (((Int.toNat (((a0_1).length : Nat) : Int)) - (Int.toNat (IntKind.i64.wrap ((c2).1 + (1 : Int)))))))) (0 + (Int.toNat (((((Int.toNat (c2).1) - 0) + (((((a0_1).drop ((0 + (Int.toNat (IntKind.i64.wrap ((c2).1 + (1 : Int)))))))).take (((Int.toNat (((a0_1).length : Nat) : Int)) - (Int.toNat (IntKind.i64.wrap ((c2).1 + (1 : Int)))))))).length) : Nat) : Int))) (List.replicate (((Int.toNat (((a0_1).length : Nat) : Int)) - (Int.toNat (((((Int.toNat (c2).1) - 0) + (((((a0_1).drop ((0 + (Int.toNat (IntKind.i64.wrap ((c2).1 + (1 : Int)))))))).take (((Int.toNat (((a0_1).length : Nat) : Int)) - (Int.toNat (IntKind.i64.wrap ((c2).1 + (1 : Int)))))))).length) : Nat) : Int)))) [(DV.v (Value.int IntKind.i64 (0 : Int)))]))).take ((((Int.toNat (c2).1) - 0) + (((((a0_1).drop ((0 + (Int.toNat (IntKind.i64.wrap ((c2).1 + (1 : Int)))))))).take (((Int.toNat (((a0_1).length : Nat) : Int)) - (Int.toNat (IntKind.i64.wrap ((c2).1 + (1 : Int)))))))).length))), (a0_2, ()))), ((0 : Int), ()))))))))))))))) (
                needs (((0 + ((Int.toNat (c2).1) - 0)) + (((((a0_0).drop ((0 + (Int.toNat (IntKind.i64.wrap ((c2).1 + (1 : Int)))))))).take (((Int.toNat (((a0_0).length : Nat) : Int)) - (Int.toNat (IntKind.i64.wrap ((c2).1 + (1 : Int)))))))).length) ≤ (a0_0).length) (
                needs (((0 : Int) ≤ (((((Int.toNat (c2).1) - 0) + (((((a0_0).drop ((0 + (Int.toNat (IntKind.i64.wrap ((c2).1 + (1 : Int)))))))).take (((Int.toNat (((a0_0).length : Nat) : Int)) - (Int.toNat (IntKind.i64.wrap ((c2).1 + (1 : Int)))))))).length) : Nat) : Int)) ∧ (((((((Int.toNat (c2).1) - 0) + (((((a0_0).drop ((0 + (Int.toNat (IntKind.i64.wrap ((c2).1 + (1 : Int)))))))).take (((Int.toNat (((a0_0).length : Nat) : Int)) - (Int.toNat (IntKind.i64.wrap ((c2).1 + (1 : Int)))))))).length) : Nat) : Int) ≤ (((a0_0).length : Nat) : Int)) ∧ ((((a0_0).length : Nat) : Int) ≤ (((((overD a0_0 (0 + ((Int.toNat (c2).1) - 0)) ((((a0_0).drop ((0 + (Int.toNat (IntKind.i64.wrap ((c2).1 + (1 : Int)))))))).take (((Int.toNat (((a0_0).length : Nat) : Int)) - (Int.toNat (IntKind.i64.wrap ((c2).1 + (1 : Int))))))))).length - 0) : Nat) : Int)))) (
                needs ((((a0_1).length * 8) ≤ 140737488355328) ∧ (((a0_1).length * 1) ≤ 140737488355328)) (
                needs (((IntKind.i64.wrap ((c2).1 + (1 : Int))) ≤ (((a0_1).length : Nat) : Int)) ∧ ((((a0_1).length : Nat) : Int) ≤ ((((a0_1).length - 0) : Nat) : Int))) (
                needs (((0 : Int) ≤ (c2).1) ∧ (((c2).1 ≤ (IntKind.i64.wrap ((c2).1 + (1 : Int)))) ∧ ((IntKind.i64.wrap ((c2).1 + (1 : Int))) ≤ ((((a0_1).length - 0) : Nat) : Int)))) (
                needs (¬ (((Int.toNat (c2).1) = (Int.toNat (IntKind.i64.wrap ((c2).1 + (1 : Int))))) ∧ ((((a0_1).length : Nat) : Int) = (IntKind.i64.wrap ((c2).1 + (1 : Int)))))) (
                cond (((c2).1 == (IntKind.i64.wrap ((c2).1 + (1 : Int))))) (
                  c = (((((overD (overD a0_0 (0 + ((Int.toNat (c2).1) - 0)) ((((a0_0).drop ((0 + (Int.toNat (IntKind.i64.wrap ((c2).1 + (1 : Int)))))))).take (((Int.toNat (((a0_0).length : Nat) : Int)) - (Int.toNat (IntKind.i64.wrap ((c2).1 + (1 : Int)))))))) (0 + (Int.toNat (((((Int.toNat (c2).1) - 0) + (((((a0_0).drop ((0 + (Int.toNat (IntKind.i64.wrap ((c2).1 + (1 : Int)))))))).take (((Int.toNat (((a0_0).length : Nat) : Int)) - (Int.toNat (IntKind.i64.wrap ((c2).1 + (1 : Int)))))))).length) : Nat) : Int))) (List.replicate (((Int.toNat (((a0_0).length : Nat) : Int)) - (Int.toNat (((((Int.toNat (c2).1) - 0) + (((((a0_0).drop ((0 + (Int.toNat (IntKind.i64.wrap ((c2).1 + (1 : Int)))))))).take (((Int.toNat (((a0_0).length : Nat) : Int)) - (Int.toNat (IntKind.i64.wrap ((c2).1 + (1 : Int)))))))).length) : Nat) : Int)))) [(DV.v (Value.int IntKind.i64 (0 : Int))), (DV.v (Value.int IntKind.i64 (0 : Int)))]))).take ((((Int.toNat (c2).1) - 0) + (((((a0_0).drop ((0 + (Int.toNat (IntKind.i64.wrap ((c2).1 + (1 : Int)))))))).take (((Int.toNat (((a0_0).length : Nat) : Int)) - (Int.toNat (IntKind.i64.wrap ((c2).1 + (1 : Int)))))))).length))), (((a0_1).take ((a0_1).length)), (a0_2, ()))), ((0 : Int), ()))) (
                  needs (((0 : Int) ≤ (0 : Int)) ∧ (((0 : Int) ≤ (c2).1) ∧ ((c2).1 ≤ ((((a0_1).length - 0) : Nat) : Int)))) (
                  needs (((0 : Int) ≤ (IntKind.i64.wrap ((c2).1 + (1 : Int)))) ∧ (((IntKind.i64.wrap ((c2).1 + (1 : Int))) ≤ (((a0_1).length : Nat) : Int)) ∧ ((((a0_1).length : Nat) : Int) ≤ ((((a0_1).length - 0) : Nat) : Int)))) (
                  cond (decide (((0 = 0) ∧ (((Int.toNat (c2).1) - 0) = (a0_1).length)))) (
                    needs (((((a0_1 ++ ((((a0_1).drop ((0 + (Int.toNat (IntKind.i64.wrap ((c2).1 + (1 : Int)))))))).take (((Int.toNat (((a0_1).length : Nat) : Int)) - (Int.toNat (IntKind.i64.wrap ((c2).1 + (1 : Int))))))))).length * 8) ≤ 140737488355328) ∧ ((((a0_1 ++ ((((a0_1).drop ((0 + (Int.toNat (IntKind.i64.wrap ((c2).1 + (1 : Int)))))))).take (((Int.toNat (((a0_1).length : Nat) : Int)) - (Int.toNat (IntKind.i64.wrap ((c2).1 + (1 : Int))))))))).length * 1) ≤ 140737488355328)) (
                    needs (((0 : Int) ≤ ((((a0_1 ++ ((((a0_1).drop ((0 + (Int.toNat (IntKind.i64.wrap ((c2).1 + (1 : Int)))))))).take (((Int.toNat (((a0_1).length : Nat) : Int)) - (Int.toNat (IntKind.i64.wrap ((c2).1 + (1 : Int))))))))).length : Nat) : Int)) ∧ ((((((a0_1 ++ ((((a0_1).drop ((0 + (Int.toNat (IntKind.i64.wrap ((c2).1 + (1 : Int)))))))).take (((Int.toNat (((a0_1).length : Nat) : Int)) - (Int.toNat (IntKind.i64.wrap ((c2).1 + (1 : Int))))))))).length : Nat) : Int) ≤ (((a0_1).length : Nat) : Int)) ∧ ((((a0_1).length : Nat) : Int) ≤ (((((a0_1 ++ ((((a0_1).drop ((0 + (Int.toNat (IntKind.i64.wrap ((c2).1 + (1 : Int)))))))).take (((Int.toNat (((a0_1).length : Nat) : Int)) - (Int.toNat (IntKind.i64.wrap ((c2).1 + (1 : Int))))))))).length - 0) : Nat) : Int)))) (
                    c = (((((overD (overD a0_0 (0 + ((Int.toNat (c2).1) - 0)) ((((a0_0).drop ((0 + (Int.toNat (IntKind.i64.wrap ((c2).1 + (1 : Int)))))))).take (((Int.toNat (((a0_0).length : Nat) : Int)) - (Int.toNat (IntKind.i64.wrap ((c2).1 + (1 : Int)))))))) (0 + (Int.toNat (((((Int.toNat (c2).1) - 0) + (((((a0_0).drop ((0 + (Int.toNat (IntKind.i64.wrap ((c2).1 + (1 : Int)))))))).take (((Int.toNat (((a0_0).length : Nat) : Int)) - (Int.toNat (IntKind.i64.wrap ((c2).1 + (1 : Int)))))))).length) : Nat) : Int))) (List.replicate (((Int.toNat (((a0_0).length : Nat) : Int)) - (Int.toNat (((((Int.toNat (c2).1) - 0) + (((((a0_0).drop ((0 + (Int.toNat (IntKind.i64.wrap ((c2).1 + (1 : Int)))))))).take (((Int.toNat (((a0_0).length : Nat) : Int)) - (Int.toNat (IntKind.i64.wrap ((c2).1 + (1 : Int)))))))).length) : Nat) : Int)))) [(DV.v (Value.int IntKind.i64 (0 : Int))), (DV.v (Value.int IntKind.i64 (0 : Int)))]))).take ((((Int.toNat (c2).1) - 0) + (((((a0_0).drop ((0 + (Int.toNat (IntKind.i64.wrap ((c2).1 + (1 : Int)))))))).take (((Int.toNat (((a0_0).length : Nat) : Int)) - (Int.toNat (IntKind.i64.wrap ((c2).1 + (1 : Int)))))))).length))), ((((overD (a0_1 ++ ((((a0_1).drop ((0 + (Int.toNat (IntKind.i64.wrap ((c2).1 + (1 : Int)))))))).take (((Int.toNat (((a0_1).length : Nat) : Int)) - (Int.toNat (IntKind.i64.wrap ((c2).1 + (1 : Int)))))))) (0 + (Int.toNat ((((a0_1 ++ ((((a0_1).drop ((0 + (Int.toNat (IntKind.i64.wrap ((c2).1 + (1 : Int)))))))).take (((Int.toNat (((a0_1).length : Nat) : Int)) - (Int.toNat (IntKind.i64.wrap ((c2).1 + (1 : Int))))))))).length : Nat) : Int))) (List.replicate (((Int.toNat (((a0_1).length : Nat) : Int)) - (Int.toNat ((((a0_1 ++ ((((a0_1).drop ((0 + (Int.toNat (IntKind.i64.wrap ((c2).1 + (1 : Int)))))))).take (((Int.toNat (((a0_1).length : Nat) : Int)) - (Int.toNat (IntKind.i64.wrap ((c2).1 + (1 : Int))))))))).length : Nat) : Int)))) [(DV.v (Value.int IntKind.i64 (0 : Int)))]))).take (((a0_1 ++ ((((a0_1).drop ((0 + (Int.toNat (IntKind.i64.wrap ((c2).1 + (1 : Int)))))))).take (((Int.toNat (((a0_1).length : Nat) : Int)) - (Int.toNat (IntKind.i64.wrap ((c2).1 + (1 : Int))))))))).length)), (a0_2, ()))), ((0 : Int), ()))))) (
                    needs (((0 + ((Int.toNat (c2).1) - 0)) + (((((a0_1).drop ((0 + (Int.toNat (IntKind.i64.wrap ((c2).1 + (1 : Int)))))))).take (((Int.toNat (((a0_1).length : Nat) : Int)) - (Int.toNat (IntKind.i64.wrap ((c2).1 + (1 : Int)))))))).length) ≤ (a0_1).length) (
                    needs (((0 : Int) ≤ (((((Int.toNat (c2).1) - 0) + (((((a0_1).drop ((0 + (Int.toNat (IntKind.i64.wrap ((c2).1 + (1 : Int)))))))).take (((Int.toNat (((a0_1).length : Nat) : Int)) - (Int.toNat (IntKind.i64.wrap ((c2).1 + (1 : Int)))))))).length) : Nat) : Int)) ∧ (((((((Int.toNat (c2).1) - 0) + (((((a0_1).drop ((0 + (Int.toNat (IntKind.i64.wrap ((c2).1 + (1 : Int)))))))).take (((Int.toNat (((a0_1).length : Nat) : Int)) - (Int.toNat (IntKind.i64.wrap ((c2).1 + (1 : Int)))))))).length) : Nat) : Int) ≤ (((a0_1).length : Nat) : Int)) ∧ ((((a0_1).length : Nat) : Int) ≤ (((((overD a0_1 (0 + ((Int.toNat (c2).1) - 0)) ((((a0_1).drop ((0 + (Int.toNat (IntKind.i64.wrap ((c2).1 + (1 : Int)))))))).take (((Int.toNat (((a0_1).length : Nat) : Int)) - (Int.toNat (IntKind.i64.wrap ((c2).1 + (1 : Int))))))))).length - 0) : Nat) : Int)))) (
                    c = (((((overD (overD a0_0 (0 + ((Int.toNat (c2).1) - 0)) ((((a0_0).drop ((0 + (Int.toNat (IntKind.i64.wrap ((c2).1 + (1 : Int)))))))).take (((Int.toNat (((a0_0).length : Nat) : Int)) - (Int.toNat (IntKind.i64.wrap ((c2).1 + (1 : Int)))))))) (0 + (Int.toNat (((((Int.toNat (c2).1) - 0) + (((((a0_0).drop ((0 + (Int.toNat (IntKind.i64.wrap ((c2).1 + (1 : Int)))))))).take (((Int.toNat (((a0_0).length : Nat) : Int)) - (Int.toNat (IntKind.i64.wrap ((c2).1 + (1 : Int)))))))).length) : Nat) : Int))) (List.replicate (((Int.toNat (((a0_0).length : Nat) : Int)) - (Int.toNat (((((Int.toNat (c2).1) - 0) + (((((a0_0).drop ((0 + (Int.toNat (IntKind.i64.wrap ((c2).1 + (1 : Int)))))))).take (((Int.toNat (((a0_0).length : Nat) : Int)) - (Int.toNat (IntKind.i64.wrap ((c2).1 + (1 : Int)))))))).length) : Nat) : Int)))) [(DV.v (Value.int IntKind.i64 (0 : Int))), (DV.v (Value.int IntKind.i64 (0 : Int)))]))).take ((((Int.toNat (c2).1) - 0) + (((((a0_0).drop ((0 + (Int.toNat (IntKind.i64.wrap ((c2).1 + (1 : Int)))))))).take (((Int.toNat (((a0_0).length : Nat) : Int)) - (Int.toNat (IntKind.i64.wrap ((c2).1 + (1 : Int)))))))).length))), ((((overD (overD a0_1 (0 + ((Int.toNat (c2).1) - 0)) ((((a0_1).drop ((0 + (Int.toNat (IntKind.i64.wrap ((c2).1 + (1 : Int)))))))).take (((Int.toNat (((a0_1).length : Nat) : Int)) - (Int.toNat (IntKind.i64.wrap ((c2).1 + (1 : Int)))))))) (0 + (Int.toNat (((((Int.toNat (c2).1) - 0) + (((((a0_1).drop ((0 + (Int.toNat (IntKind.i64.wrap ((c2).1 + (1 : Int)))))))).take (((Int.toNat (((a0_1).length : Nat) : Int)) - (Int.toNat (IntKind.i64.wrap ((c2).1 + (1 : Int)))))))).length) : Nat) : Int))) (List.replicate (((Int.toNat (((a0_1).length : Nat) : Int)) - (Int.toNat (((((Int.toNat (c2).1) - 0) + (((((a0_1).drop ((0 + (Int.toNat (IntKind.i64.wrap ((c2).1 + (1 : Int)))))))).take (((Int.toNat (((a0_1).length : Nat) : Int)) - (Int.toNat (IntKind.i64.wrap ((c2).1 + (1 : Int)))))))).length) : Nat) : Int)))) [(DV.v (Value.int IntKind.i64 (0 : Int)))]))).take ((((Int.toNat (c2).1) - 0) + (((((a0_1).drop ((0 + (Int.toNat (IntKind.i64.wrap ((c2).1 + (1 : Int)))))))).take (((Int.toNat (((a0_1).length : Nat) : Int)) - (Int.toNat (IntKind.i64.wrap ((c2).1 + (1 : Int)))))))).length))), (a0_2, ()))), ((0 : Int), ())))))))))))))))))))))))) (
          cond ((a1_0 == (2 : Int))) (
            cond (decide (((c3).1 < (0 : Int)))) (
              c = ((a0_0, (a0_1, (a0_2, ()))), ((7 : Int), ()))) (
              cond (decide (((c2).1 ≥ (0 : Int)))) (
                c = ((a0_0, (a0_1, (a0_2, ()))), ((8 : Int), ()))) (
                cond ((a1_0 == (1 : Int))) (
                  optAll (ghost_born.R a0_0 a0_1 a0_2 a1_1 a1_2 (-1 : Int)) fun (c4 : ((List (List DV) × (List (List DV) × (List (List DV) × Unit))) × (Int × Unit))) =>
                  c = ((((c4).1).1, ((((c4).1).2).1, (((((c4).1).2).2).1, ()))), (((c4).2).1, ()))) (
                  cond ((a1_0 == (2 : Int))) (
                    needs ((0 : Int) ≤ (c3).1) (
                    optAll ((a0_1)[(Int.toNat (c3).1)]?) fun (r5 : List DV) =>
                    optAll ((dInt IntKind.i64 r5 0)) fun (z6 : Int) =>
                    optAll (ghost_born.R a0_0 a0_1 a0_2 a1_1 a1_2 z6) fun (c7 : ((List (List DV) × (List (List DV) × (List (List DV) × Unit))) × (Int × Unit))) =>
                    c = ((((c7).1).1, ((((c7).1).2).1, (((((c7).1).2).2).1, ()))), (((c7).2).1, ())))) (
                    needs ((((a0_0).length * 16) ≤ 140737488355328) ∧ (((a0_0).length * 2) ≤ 140737488355328)) (
                    needs (((0 : Int) ≤ (c3).1) ∧ ((c3).1 < (((a0_0).length : Nat) : Int))) (
                    optAll ((a0_0)[(0 + (Int.toNat (c3).1))]?) fun (r8 : List DV) =>
                    needs (2 ≤ (r8).length) (
                    c = ((((((a0_0).set ((0 + (Int.toNat (c3).1))) (putD r8 0 [(DV.v (Value.int IntKind.i64 a1_1)), (DV.v (Value.int IntKind.i64 a1_2))]))).take ((a0_0).length)), (a0_1, (a0_2, ()))), ((0 : Int), ())))))))))) (
            cond ((a1_0 == (3 : Int))) (
              cond (decide (((c3).1 < (0 : Int)))) (
                c = ((a0_0, (a0_1, (a0_2, ()))), ((7 : Int), ()))) (
                cond (decide (((c2).1 ≥ (0 : Int)))) (
                  c = ((a0_0, (a0_1, (a0_2, ()))), ((8 : Int), ()))) (
                  cond ((a1_0 == (1 : Int))) (
                    optAll (ghost_born.R a0_0 a0_1 a0_2 a1_1 a1_2 (-1 : Int)) fun (c9 : ((List (List DV) × (List (List DV) × (List (List DV) × Unit))) × (Int × Unit))) =>
                    c = ((((c9).1).1, ((((c9).1).2).1, (((((c9).1).2).2).1, ()))), (((c9).2).1, ()))) (
                    cond ((a1_0 == (2 : Int))) (
                      needs ((0 : Int) ≤ (c3).1) (
                      optAll ((a0_1)[(Int.toNat (c3).1)]?) fun (r10 : List DV) =>
                      optAll ((dInt IntKind.i64 r10 0)) fun (z11 : Int) =>
                      optAll (ghost_born.R a0_0 a0_1 a0_2 a1_1 a1_2 z11) fun (c12 : ((List (List DV) × (List (List DV) × (List (List DV) × Unit))) × (Int × Unit))) =>
                      c = ((((c12).1).1, ((((c12).1).2).1, (((((c12).1).2).2).1, ()))), (((c12).2).1, ())))) (
                      needs ((((a0_0).length * 16) ≤ 140737488355328) ∧ (((a0_0).length * 2) ≤ 140737488355328)) (
                      needs (((0 : Int) ≤ (c3).1) ∧ ((c3).1 < (((a0_0).length : Nat) : Int))) (
                      optAll ((a0_0)[(0 + (Int.toNat (c3).1))]?) fun (r13 : List DV) =>
                      needs (2 ≤ (r13).length) (
                      c = ((((((a0_0).set ((0 + (Int.toNat (c3).1))) (putD r13 0 [(DV.v (Value.int IntKind.i64 a1_1)), (DV.v (Value.int IntKind.i64 a1_2))]))).take ((a0_0).length)), (a0_1, (a0_2, ()))), ((0 : Int), ())))))))))) (
              cond (decide (((c2).1 ≥ (0 : Int)))) (
                c = ((a0_0, (a0_1, (a0_2, ()))), ((8 : Int), ()))) (
                cond ((a1_0 == (1 : Int))) (
                  optAll (ghost_born.R a0_0 a0_1 a0_2 a1_1 a1_2 (-1 : Int)) fun (c14 : ((List (List DV) × (List (List DV) × (List (List DV) × Unit))) × (Int × Unit))) =>
                  c = ((((c14).1).1, ((((c14).1).2).1, (((((c14).1).2).2).1, ()))), (((c14).2).1, ()))) (
                  cond ((a1_0 == (2 : Int))) (
                    needs ((0 : Int) ≤ (c3).1) (
                    optAll ((a0_1)[(Int.toNat (c3).1)]?) fun (r15 : List DV) =>
                    optAll ((dInt IntKind.i64 r15 0)) fun (z16 : Int) =>
                    optAll (ghost_born.R a0_0 a0_1 a0_2 a1_1 a1_2 z16) fun (c17 : ((List (List DV) × (List (List DV) × (List (List DV) × Unit))) × (Int × Unit))) =>
                    c = ((((c17).1).1, ((((c17).1).2).1, (((((c17).1).2).2).1, ()))), (((c17).2).1, ())))) (
                    needs ((((a0_0).length * 16) ≤ 140737488355328) ∧ (((a0_0).length * 2) ≤ 140737488355328)) (
                    needs (((0 : Int) ≤ (c3).1) ∧ ((c3).1 < (((a0_0).length : Nat) : Int))) (
                    optAll ((a0_0)[(0 + (Int.toNat (c3).1))]?) fun (r18 : List DV) =>
                    needs (2 ≤ (r18).length) (
                    c = ((((((a0_0).set ((0 + (Int.toNat (c3).1))) (putD r18 0 [(DV.v (Value.int IntKind.i64 a1_1)), (DV.v (Value.int IntKind.i64 a1_2))]))).take ((a0_0).length)), (a0_1, (a0_2, ()))), ((0 : Int), ())))))))))))))) : R a0_0 a0_1 a0_2 a1_0 a1_1 a1_2 a1_3 a1_4 = some c := start_rule (n := 400) (lv := lv) (partSum_ok _) (by kernel_rfl) h
end ghost_Add
/-! garrison/garrisonref14.Add -/
namespace ref14_Add
def lv : Live := []
theorem start (a0_0 : List (List DV)) (a0_1 : List (List DV)) (a0_2 : List (List DV)) (a1_0 : Int) (a1_1 : Int) (a1_2 : Int) (a1_3 : Int) (a1_4 : Int) (c : ((List (List DV) × (List (List DV) × (List (List DV) × Unit))) × (Int × Unit))) (h :
    cond ((a1_0 == (2 : Int))) (
      optAll (ref14_Is.R a0_0 a0_1 a0_2) fun (c0 : (Bool × Unit)) =>
      cond ((!(c0).1)) (
        c = ((a0_0, (a0_1, (a0_2, ()))), ((2 : Int), ()))) (
        cond (decide ((a1_0 < (1 : Int)))) (
          c = ((a0_0, (a0_1, (a0_2, ()))), ((2 : Int), ()))) (
          cond (decide ((a1_0 > (4 : Int)))) (
            c = ((a0_0, (a0_1, (a0_2, ()))), ((2 : Int), ()))) (
            optAll (ref06_Is.R a1_1 a1_2) fun (c1 : (Bool × Unit)) =>
            cond ((!(c1).1)) (
              c = ((a0_0, (a0_1, (a0_2, ()))), ((2 : Int), ()))) (
              optAll (ref06_Is.R a1_3 a1_4) fun (c2 : (Bool × Unit)) =>
              cond ((!(c2).1)) (
                c = ((a0_0, (a0_1, (a0_2, ()))), ((2 : Int), ()))) (
                optAll (ref14_find.R a0_0 a0_1 a0_2 a1_1 a1_2) fun (c3 : (Int × Unit)) =>
                optAll (ref14_find.R a0_0 a0_1 a0_2 a1_3 a1_4) fun (c4 : (Int × Unit)) =>
                cond (decide (((c4).1 < (0 : Int)))) (
                  c = ((a0_0, (a0_1, (a0_2, ()))), ((7 : Int), ()))) (
                  cond ((a1_0 == (4 : Int))) (
                    cond (decide (((c3).1 < (0 : Int)))) (
                      c = ((a0_0, (a0_1, (a0_2, ()))), ((7 : Int), ()))) (
                      cond ((a1_0 != (4 : Int))) (
                        cond (decide (((c3).1 ≥ (0 : Int)))) (
                          c = ((a0_0, (a0_1, (a0_2, ()))), ((8 : Int), ()))) (
                          cond ((a1_0 == (3 : Int))) (
                            needs ((((a0_0).length * 16) ≤ 140737488355328) ∧ (((a0_0).length * 2) ≤ 140737488355328)) (
                            needs (((0 : Int) ≤ (c4).1) ∧ ((c4).1 < (((a0_0).length : Nat) : Int))) (
                            optAll ((a0_0)[(0 + (Int.toNat (c4).1))]?) fun (r5 : List DV) =>
                            needs (2 ≤ (r5).length) (
                            c = ((((((a0_0).set ((0 + (Int.toNat (c4).1))) (putD r5 0 [(DV.v (Value.int IntKind.i64 a1_1)), (DV.v (Value.int IntKind.i64 a1_2))]))).take ((a0_0).length)), (a0_1, (a0_2, ()))), ((0 : Int), ())))))) (
                            cond ((a1_0 == (4 : Int))) (
                              needs (((0 : Int) ≤ (0 : Int)) ∧ (((0 : Int) ≤ (c3).1) ∧ ((c3).1 ≤ (((a0_0).length : Nat) : Int)))) (
                              needs ((((((a0_0).take ((Int.toNat (c3).1)))).length * 16) ≤ 140737488355328) ∧ (((((a0_0).take ((Int.toNat (c3).1)))).length * 2) ≤ 140737488355328)) (
                              needs (((0 : Int) ≤ (IntKind.i64.wrap ((c3).1 + (1 : Int)))) ∧ (((IntKind.i64.wrap ((c3).1 + (1 : Int))) ≤ (((a0_0).length : Nat) : Int)) ∧ ((((a0_0).length : Nat) : Int) ≤ (((a0_0).length : Nat) : Int)))) (
                              needs ((((a0_0).take ((Int.toNat (c3).1)))).length = (((a0_0).take ((Int.toNat (c3).1)))).length) (
                              needs (((((((a0_0).take ((Int.toNat (c3).1))) ++ ((((a0_0).take ((Int.toNat (((a0_0).length : Nat) : Int))))).drop ((Int.toNat (IntKind.i64.wrap ((c3).1 + (1 : Int)))))))).length * 16) ≤ 140737488355328) ∧ ((((((a0_0).take ((Int.toNat (c3).1))) ++ ((((a0_0).take ((Int.toNat (((a0_0).length : Nat) : Int))))).drop ((Int.toNat (IntKind.i64.wrap ((c3).1 + (1 : Int)))))))).length * 2) ≤ 140737488355328)) (
                              needs (((0 : Int) ≤ (0 : Int)) ∧ (((0 : Int) ≤ (c3).1) ∧ ((c3).1 ≤ (((a0_1).length : Nat) : Int)))) (
                              needs ((((((a0_1).take ((Int.toNat (c3).1)))).length * 8) ≤ 140737488355328) ∧ (((((a0_1).take ((Int.toNat (c3).1)))).length * 1) ≤ 140737488355328)) (
                              needs (((0 : Int) ≤ (IntKind.i64.wrap ((c3).1 + (1 : Int)))) ∧ (((IntKind.i64.wrap ((c3).1 + (1 : Int))) ≤ (((a0_1).length : Nat) : Int)) ∧ ((((a0_1).length : Nat) : Int) ≤ (((a0_1).length : Nat) : Int)))) (
                              needs ((((a0_1).take ((Int.toNat (c3).1)))).length = (((a0_1).take ((Int.toNat (c3).1)))).length) (
                              needs (((((((a0_1).take ((Int.toNat (c3).1))) ++ ((((a0_1).take ((Int.toNat (((a0_1).length : Nat) : Int))))).drop ((Int.toNat (IntKind.i64.wrap ((c3).1 + (1 : Int)))))))).length * 8) ≤ 140737488355328) ∧ ((((((a0_1).take ((Int.toNat (c3).1))) ++ ((((a0_1).take ((Int.toNat (((a0_1).length : Nat) : Int))))).drop ((Int.toNat (IntKind.i64.wrap ((c3).1 + (1 : Int)))))))).length * 1) ≤ 140737488355328)) (
                              c = (((((((a0_0).take ((Int.toNat (c3).1))) ++ ((((a0_0).take ((Int.toNat (((a0_0).length : Nat) : Int))))).drop ((Int.toNat (IntKind.i64.wrap ((c3).1 + (1 : Int)))))))).take (((((a0_0).take ((Int.toNat (c3).1))) ++ ((((a0_0).take ((Int.toNat (((a0_0).length : Nat) : Int))))).drop ((Int.toNat (IntKind.i64.wrap ((c3).1 + (1 : Int)))))))).length)), ((((((a0_1).take ((Int.toNat (c3).1))) ++ ((((a0_1).take ((Int.toNat (((a0_1).length : Nat) : Int))))).drop ((Int.toNat (IntKind.i64.wrap ((c3).1 + (1 : Int)))))))).take (((((a0_1).take ((Int.toNat (c3).1))) ++ ((((a0_1).take ((Int.toNat (((a0_1).length : Nat) : Int))))).drop ((Int.toNat (IntKind.i64.wrap ((c3).1 + (1 : Int)))))))).length)), (a0_2, ()))), ((0 : Int), ()))))))))))))) (
                              cond (decide (((((a0_2).length : Nat) : Int) ≥ (4096 : Int)))) (
                                c = ((a0_0, (a0_1, (a0_2, ()))), ((6 : Int), ()))) (
                                cond ((a1_0 == (2 : Int))) (
                                  needs ((0 : Int) ≤ (c4).1) (
                                  optAll ((a0_1)[(Int.toNat (c4).1)]?) fun (r6 : List DV) =>
                                  optAll ((dInt IntKind.i64 r6 0)) fun (z7 : Int) =>
                                  needs ((((a0_0).length * 16) ≤ 140737488355328) ∧ (((a0_0).length * 2) ≤ 140737488355328)) (
                                  needs ((a0_0).length = (a0_0).length) (
                                  needs (((((a0_0 ++ (([[(DV.v (Value.int IntKind.i64 a1_1)), (DV.v (Value.int IntKind.i64 a1_2))]]).take (1)))).length * 16) ≤ 140737488355328) ∧ ((((a0_0 ++ (([[(DV.v (Value.int IntKind.i64 a1_1)), (DV.v (Value.int IntKind.i64 a1_2))]]).take (1)))).length * 2) ≤ 140737488355328)) (
                                  needs ((((a0_1).length * 8) ≤ 140737488355328) ∧ (((a0_1).length * 1) ≤ 140737488355328)) (
                                  needs ((a0_1).length = (a0_1).length) (
                                  needs (((((a0_1 ++ (([[(DV.v (Value.int IntKind.i64 (((a0_2).length : Nat) : Int)))]]).take (1)))).length * 8) ≤ 140737488355328) ∧ ((((a0_1 ++ (([[(DV.v (Value.int IntKind.i64 (((a0_2).length : Nat) : Int)))]]).take (1)))).length * 1) ≤ 140737488355328)) (
                                  needs ((((a0_2).length * 8) ≤ 140737488355328) ∧ (((a0_2).length * 1) ≤ 140737488355328)) (
                                  needs ((a0_2).length = (a0_2).length) (
                                  needs (((((a0_2 ++ (([[(DV.v (Value.int IntKind.i64 z7))]]).take (1)))).length * 8) ≤ 140737488355328) ∧ ((((a0_2 ++ (([[(DV.v (Value.int IntKind.i64 z7))]]).take (1)))).length * 1) ≤ 140737488355328)) (
                                  c = (((((a0_0 ++ (([[(DV.v (Value.int IntKind.i64 a1_1)), (DV.v (Value.int IntKind.i64 a1_2))]]).take (1)))).take (((a0_0 ++ (([[(DV.v (Value.int IntKind.i64 a1_1)), (DV.v (Value.int IntKind.i64 a1_2))]]).take (1)))).length)), ((((a0_1 ++ (([[(DV.v (Value.int IntKind.i64 (((a0_2).length : Nat) : Int)))]]).take (1)))).take (((a0_1 ++ (([[(DV.v (Value.int IntKind.i64 (((a0_2).length : Nat) : Int)))]]).take (1)))).length)), ((((a0_2 ++ (([[(DV.v (Value.int IntKind.i64 z7))]]).take (1)))).take (((a0_2 ++ (([[(DV.v (Value.int IntKind.i64 z7))]]).take (1)))).length)), ()))), ((0 : Int), ()))))))))))))) (
                                  needs ((((a0_0).length * 16) ≤ 140737488355328) ∧ (((a0_0).length * 2) ≤ 140737488355328)) (
                                  needs ((a0_0).length = (a0_0).length) (
                                  needs (((((a0_0 ++ (([[(DV.v (Value.int IntKind.i64 a1_1)), (DV.v (Value.int IntKind.i64 a1_2))]]).take (1)))).length * 16) ≤ 140737488355328) ∧ ((((a0_0 ++ (([[(DV.v (Value.int IntKind.i64 a1_1)), (DV.v (Value.int IntKind.i64 a1_2))]]).take (1)))).length * 2) ≤ 140737488355328)) (
                                  needs ((((a0_1).length * 8) ≤ 140737488355328) ∧ (((a0_1).length * 1) ≤ 140737488355328)) (
                                  needs ((a0_1).length = (a0_1).length) (
                                  needs (((((a0_1 ++ (([[(DV.v (Value.int IntKind.i64 (((a0_2).length : Nat) : Int)))]]).take (1)))).length * 8) ≤ 140737488355328) ∧ ((((a0_1 ++ (([[(DV.v (Value.int IntKind.i64 (((a0_2).length : Nat) : Int)))]]).take (1)))).length * 1) ≤ 140737488355328)) (
                                  needs ((((a0_2).length * 8) ≤ 140737488355328) ∧ (((a0_2).length * 1) ≤ 140737488355328)) (
                                  needs ((a0_2).length = (a0_2).length) (
                                  needs (((((a0_2 ++ (([[(DV.v (Value.int IntKind.i64 (-1 : Int)))]]).take (1)))).length * 8) ≤ 140737488355328) ∧ ((((a0_2 ++ (([[(DV.v (Value.int IntKind.i64 (-1 : Int)))]]).take (1)))).length * 1) ≤ 140737488355328)) (
                                  c = (((((a0_0 ++ (([[(DV.v (Value.int IntKind.i64 a1_1)), (DV.v (Value.int IntKind.i64 a1_2))]]).take (1)))).take (((a0_0 ++ (([[(DV.v (Value.int IntKind.i64 a1_1)), (DV.v (Value.int IntKind.i64 a1_2))]]).take (1)))).length)), ((((a0_1 ++ (([[(DV.v (Value.int IntKind.i64 (((a0_2).length : Nat) : Int)))]]).take (1)))).take (((a0_1 ++ (([[(DV.v (Value.int IntKind.i64 (((a0_2).length : Nat) : Int)))]]).take (1)))).length)), ((((a0_2 ++ (([[(DV.v (Value.int IntKind.i64 (-1 : Int)))]]).take (1)))).take (((a0_2 ++ (([[(DV.v (Value.int IntKind.i64 (-1 : Int)))]]).take (1)))).length)), ()))), ((0 : Int), ()))))))))))))))))) (
                        cond ((a1_0 == (3 : Int))) (
                          needs ((((a0_0).length * 16) ≤ 140737488355328) ∧ (((a0_0).length * 2) ≤ 140737488355328)) (
                          needs (((0 : Int) ≤ (c4).1) ∧ ((c4).1 < (((a0_0).length : Nat) : Int))) (
                          optAll ((a0_0)[(0 + (Int.toNat (c4).1))]?) fun (r8 : List DV) =>
                          needs (2 ≤ (r8).length) (
                          c = ((((((a0_0).set ((0 + (Int.toNat (c4).1))) (putD r8 0 [(DV.v (Value.int IntKind.i64 a1_1)), (DV.v (Value.int IntKind.i64 a1_2))]))).take ((a0_0).length)), (a0_1, (a0_2, ()))), ((0 : Int), ())))))) (
                          cond ((a1_0 == (4 : Int))) (
                            needs (((0 : Int) ≤ (0 : Int)) ∧ (((0 : Int) ≤ (c3).1) ∧ ((c3).1 ≤ (((a0_0).length : Nat) : Int)))) (
                            needs ((((((a0_0).take ((Int.toNat (c3).1)))).length * 16) ≤ 140737488355328) ∧ (((((a0_0).take ((Int.toNat (c3).1)))).length * 2) ≤ 140737488355328)) (
                            needs (((0 : Int) ≤ (IntKind.i64.wrap ((c3).1 + (1 : Int)))) ∧ (((IntKind.i64.wrap ((c3).1 + (1 : Int))) ≤ (((a0_0).length : Nat) : Int)) ∧ ((((a0_0).length : Nat) : Int) ≤ (((a0_0).length : Nat) : Int)))) (
                            needs ((((a0_0).take ((Int.toNat (c3).1)))).length = (((a0_0).take ((Int.toNat (c3).1)))).length) (
                            needs (((((((a0_0).take ((Int.toNat (c3).1))) ++ ((((a0_0).take ((Int.toNat (((a0_0).length : Nat) : Int))))).drop ((Int.toNat (IntKind.i64.wrap ((c3).1 + (1 : Int)))))))).length * 16) ≤ 140737488355328) ∧ ((((((a0_0).take ((Int.toNat (c3).1))) ++ ((((a0_0).take ((Int.toNat (((a0_0).length : Nat) : Int))))).drop ((Int.toNat (IntKind.i64.wrap ((c3).1 + (1 : Int)))))))).length * 2) ≤ 140737488355328)) (
                            needs (((0 : Int) ≤ (0 : Int)) ∧ (((0 : Int) ≤ (c3).1) ∧ ((c3).1 ≤ (((a0_1).length : Nat) : Int)))) (
                            needs ((((((a0_1).take ((Int.toNat (c3).1)))).length * 8) ≤ 140737488355328) ∧ (((((a0_1).take ((Int.toNat (c3).1)))).length * 1) ≤ 140737488355328)) (
                            needs (((0 : Int) ≤ (IntKind.i64.wrap ((c3).1 + (1 : Int)))) ∧ (((IntKind.i64.wrap ((c3).1 + (1 : Int))) ≤ (((a0_1).length : Nat) : Int)) ∧ ((((a0_1).length : Nat) : Int) ≤ (((a0_1).length : Nat) : Int)))) (
                            needs ((((a0_1).take ((Int.toNat (c3).1)))).length = (((a0_1).take ((Int.toNat (c3).1)))).length) (
                            needs (((((((a0_1).take ((Int.toNat (c3).1))) ++ ((((a0_1).take ((Int.toNat (((a0_1).length : Nat) : Int))))).drop ((Int.toNat (IntKind.i64.wrap ((c3).1 + (1 : Int)))))))).length * 8) ≤ 140737488355328) ∧ ((((((a0_1).take ((Int.toNat (c3).1))) ++ ((((a0_1).take ((Int.toNat (((a0_1).length : Nat) : Int))))).drop ((Int.toNat (IntKind.i64.wrap ((c3).1 + (1 : Int)))))))).length * 1) ≤ 140737488355328)) (
                            c = (((((((a0_0).take ((Int.toNat (c3).1))) ++ ((((a0_0).take ((Int.toNat (((a0_0).length : Nat) : Int))))).drop ((Int.toNat (IntKind.i64.wrap ((c3).1 + (1 : Int)))))))).take (((((a0_0).take ((Int.toNat (c3).1))) ++ ((((a0_0).take ((Int.toNat (((a0_0).length : Nat) : Int))))).drop ((Int.toNat (IntKind.i64.wrap ((c3).1 + (1 : Int)))))))).length)), ((((((a0_1).take ((Int.toNat (c3).1))) ++ ((((a0_1).take ((Int.toNat (((a0_1).length : Nat) : Int))))).drop ((Int.toNat (IntKind.i64.wrap ((c3).1 + (1 : Int)))))))).take (((((a0_1).take ((Int.toNat (c3).1))) ++ ((((a0_1).take ((Int.toNat (((a0_1).length : Nat) : Int))))).drop ((Int.toNat (IntKind.i64.wrap ((c3).1 + (1 : Int)))))))).length)), (a0_2, ()))), ((0 : Int), ()))))))))))))) (
                            cond (decide (((((a0_2).length : Nat) : Int) ≥ (4096 : Int)))) (
                              c = ((a0_0, (a0_1, (a0_2, ()))), ((6 : Int), ()))) (
                              cond ((a1_0 == (2 : Int))) (
                                needs ((0 : Int) ≤ (c4).1) (
                                optAll ((a0_1)[(Int.toNat (c4).1)]?) fun (r9 : List DV) =>
                                optAll ((dInt IntKind.i64 r9 0)) fun (z10 : Int) =>
                                needs ((((a0_0).length * 16) ≤ 140737488355328) ∧ (((a0_0).length * 2) ≤ 140737488355328)) (
                                needs ((a0_0).length = (a0_0).length) (
                                needs (((((a0_0 ++ (([[(DV.v (Value.int IntKind.i64 a1_1)), (DV.v (Value.int IntKind.i64 a1_2))]]).take (1)))).length * 16) ≤ 140737488355328) ∧ ((((a0_0 ++ (([[(DV.v (Value.int IntKind.i64 a1_1)), (DV.v (Value.int IntKind.i64 a1_2))]]).take (1)))).length * 2) ≤ 140737488355328)) (
                                needs ((((a0_1).length * 8) ≤ 140737488355328) ∧ (((a0_1).length * 1) ≤ 140737488355328)) (
                                needs ((a0_1).length = (a0_1).length) (
                                needs (((((a0_1 ++ (([[(DV.v (Value.int IntKind.i64 (((a0_2).length : Nat) : Int)))]]).take (1)))).length * 8) ≤ 140737488355328) ∧ ((((a0_1 ++ (([[(DV.v (Value.int IntKind.i64 (((a0_2).length : Nat) : Int)))]]).take (1)))).length * 1) ≤ 140737488355328)) (
                                needs ((((a0_2).length * 8) ≤ 140737488355328) ∧ (((a0_2).length * 1) ≤ 140737488355328)) (
                                needs ((a0_2).length = (a0_2).length) (
                                needs (((((a0_2 ++ (([[(DV.v (Value.int IntKind.i64 z10))]]).take (1)))).length * 8) ≤ 140737488355328) ∧ ((((a0_2 ++ (([[(DV.v (Value.int IntKind.i64 z10))]]).take (1)))).length * 1) ≤ 140737488355328)) (
                                c = (((((a0_0 ++ (([[(DV.v (Value.int IntKind.i64 a1_1)), (DV.v (Value.int IntKind.i64 a1_2))]]).take (1)))).take (((a0_0 ++ (([[(DV.v (Value.int IntKind.i64 a1_1)), (DV.v (Value.int IntKind.i64 a1_2))]]).take (1)))).length)), ((((a0_1 ++ (([[(DV.v (Value.int IntKind.i64 (((a0_2).length : Nat) : Int)))]]).take (1)))).take (((a0_1 ++ (([[(DV.v (Value.int IntKind.i64 (((a0_2).length : Nat) : Int)))]]).take (1)))).length)), ((((a0_2 ++ (([[(DV.v (Value.int IntKind.i64 z10))]]).take (1)))).take (((a0_2 ++ (([[(DV.v (Value.int IntKind.i64 z10))]]).take (1)))).length)), ()))), ((0 : Int), ()))))))))))))) (
                                needs ((((a0_0).length * 16) ≤ 140737488355328) ∧ (((a0_0).length * 2) ≤ 140737488355328)) (
                                needs ((a0_0).length = (a0_0).length) (
                                needs (((((a0_0 ++ (([[(DV.v (Value.int IntKind.i64 a1_1)), (DV.v (Value.int IntKind.i64 a1_2))]]).take (1)))).length * 16) ≤ 140737488355328) ∧ ((((a0_0 ++ (([[(DV.v (Value.int IntKind.i64 a1_1)), (DV.v (Value.int IntKind.i64 a1_2))]]).take (1)))).length * 2) ≤ 140737488355328)) (
                                needs ((((a0_1).length * 8) ≤ 140737488355328) ∧ (((a0_1).length * 1) ≤ 140737488355328)) (
                                needs ((a0_1).length = (a0_1).length) (
                                needs (((((a0_1 ++ (([[(DV.v (Value.int IntKind.i64 (((a0_2).length : Nat) : Int)))]]).take (1)))).length * 8) ≤ 140737488355328) ∧ ((((a0_1 ++ (([[(DV.v (Value.int IntKind.i64 (((a0_2).length : Nat) : Int)))]]).take (1)))).length * 1) ≤ 140737488355328)) (
                                needs ((((a0_2).length * 8) ≤ 140737488355328) ∧ (((a0_2).length * 1) ≤ 140737488355328)) (
                                needs ((a0_2).length = (a0_2).length) (
                                needs (((((a0_2 ++ (([[(DV.v (Value.int IntKind.i64 (-1 : Int)))]]).take (1)))).length * 8) ≤ 140737488355328) ∧ ((((a0_2 ++ (([[(DV.v (Value.int IntKind.i64 (-1 : Int)))]]).take (1)))).length * 1) ≤ 140737488355328)) (
                                c = (((((a0_0 ++ (([[(DV.v (Value.int IntKind.i64 a1_1)), (DV.v (Value.int IntKind.i64 a1_2))]]).take (1)))).take (((a0_0 ++ (([[(DV.v (Value.int IntKind.i64 a1_1)), (DV.v (Value.int IntKind.i64 a1_2))]]).take (1)))).length)), ((((a0_1 ++ (([[(DV.v (Value.int IntKind.i64 (((a0_2).length : Nat) : Int)))]]).take (1)))).take (((a0_1 ++ (([[(DV.v (Value.int IntKind.i64 (((a0_2).length : Nat) : Int)))]]).take (1)))).length)), ((((a0_2 ++ (([[(DV.v (Value.int IntKind.i64 (-1 : Int)))]]).take (1)))).take (((a0_2 ++ (([[(DV.v (Value.int IntKind.i64 (-1 : Int)))]]).take (1)))).length)), ()))), ((0 : Int), ())))))))))))))))))) (
                    cond ((a1_0 != (4 : Int))) (
                      cond (decide (((c3).1 ≥ (0 : Int)))) (
                        c = ((a0_0, (a0_1, (a0_2, ()))), ((8 : Int), ()))) (
                        cond ((a1_0 == (3 : Int))) (
                          needs ((((a0_0).length * 16) ≤ 140737488355328) ∧ (((a0_0).length * 2) ≤ 140737488355328)) (
                          needs (((0 : Int) ≤ (c4).1) ∧ ((c4).1 < (((a0_0).length : Nat) : Int))) (
                          optAll ((a0_0)[(0 + (Int.toNat (c4).1))]?) fun (r11 : List DV) =>
                          needs (2 ≤ (r11).length) (
                          c = ((((((a0_0).set ((0 + (Int.toNat (c4).1))) (putD r11 0 [(DV.v (Value.int IntKind.i64 a1_1)), (DV.v (Value.int IntKind.i64 a1_2))]))).take ((a0_0).length)), (a0_1, (a0_2, ()))), ((0 : Int), ())))))) (
                          cond ((a1_0 == (4 : Int))) (
                            needs (((0 : Int) ≤ (0 : Int)) ∧ (((0 : Int) ≤ (c3).1) ∧ ((c3).1 ≤ (((a0_0).length : Nat) : Int)))) (
                            needs ((((((a0_0).take ((Int.toNat (c3).1)))).length * 16) ≤ 140737488355328) ∧ (((((a0_0).take ((Int.toNat (c3).1)))).length * 2) ≤ 140737488355328)) (
                            needs (((0 : Int) ≤ (IntKind.i64.wrap ((c3).1 + (1 : Int)))) ∧ (((IntKind.i64.wrap ((c3).1 + (1 : Int))) ≤ (((a0_0).length : Nat) : Int)) ∧ ((((a0_0).length : Nat) : Int) ≤ (((a0_0).length : Nat) : Int)))) (
                            needs ((((a0_0).take ((Int.toNat (c3).1)))).length = (((a0_0).take ((Int.toNat (c3).1)))).length) (
                            needs (((((((a0_0).take ((Int.toNat (c3).1))) ++ ((((a0_0).take ((Int.toNat (((a0_0).length : Nat) : Int))))).drop ((Int.toNat (IntKind.i64.wrap ((c3).1 + (1 : Int)))))))).length * 16) ≤ 140737488355328) ∧ ((((((a0_0).take ((Int.toNat (c3).1))) ++ ((((a0_0).take ((Int.toNat (((a0_0).length : Nat) : Int))))).drop ((Int.toNat (IntKind.i64.wrap ((c3).1 + (1 : Int)))))))).length * 2) ≤ 140737488355328)) (
                            needs (((0 : Int) ≤ (0 : Int)) ∧ (((0 : Int) ≤ (c3).1) ∧ ((c3).1 ≤ (((a0_1).length : Nat) : Int)))) (
                            needs ((((((a0_1).take ((Int.toNat (c3).1)))).length * 8) ≤ 140737488355328) ∧ (((((a0_1).take ((Int.toNat (c3).1)))).length * 1) ≤ 140737488355328)) (
                            needs (((0 : Int) ≤ (IntKind.i64.wrap ((c3).1 + (1 : Int)))) ∧ (((IntKind.i64.wrap ((c3).1 + (1 : Int))) ≤ (((a0_1).length : Nat) : Int)) ∧ ((((a0_1).length : Nat) : Int) ≤ (((a0_1).length : Nat) : Int)))) (
                            needs ((((a0_1).take ((Int.toNat (c3).1)))).length = (((a0_1).take ((Int.toNat (c3).1)))).length) (
                            needs (((((((a0_1).take ((Int.toNat (c3).1))) ++ ((((a0_1).take ((Int.toNat (((a0_1).length : Nat) : Int))))).drop ((Int.toNat (IntKind.i64.wrap ((c3).1 + (1 : Int)))))))).length * 8) ≤ 140737488355328) ∧ ((((((a0_1).take ((Int.toNat (c3).1))) ++ ((((a0_1).take ((Int.toNat (((a0_1).length : Nat) : Int))))).drop ((Int.toNat (IntKind.i64.wrap ((c3).1 + (1 : Int)))))))).length * 1) ≤ 140737488355328)) (
                            c = (((((((a0_0).take ((Int.toNat (c3).1))) ++ ((((a0_0).take ((Int.toNat (((a0_0).length : Nat) : Int))))).drop ((Int.toNat (IntKind.i64.wrap ((c3).1 + (1 : Int)))))))).take (((((a0_0).take ((Int.toNat (c3).1))) ++ ((((a0_0).take ((Int.toNat (((a0_0).length : Nat) : Int))))).drop ((Int.toNat (IntKind.i64.wrap ((c3).1 + (1 : Int)))))))).length)), ((((((a0_1).take ((Int.toNat (c3).1))) ++ ((((a0_1).take ((Int.toNat (((a0_1).length : Nat) : Int))))).drop ((Int.toNat (IntKind.i64.wrap ((c3).1 + (1 : Int)))))))).take (((((a0_1).take ((Int.toNat (c3).1))) ++ ((((a0_1).take ((Int.toNat (((a0_1).length : Nat) : Int))))).drop ((Int.toNat (IntKind.i64.wrap ((c3).1 + (1 : Int)))))))).length)), (a0_2, ()))), ((0 : Int), ()))))))))))))) (
                            cond (decide (((((a0_2).length : Nat) : Int) ≥ (4096 : Int)))) (
                              c = ((a0_0, (a0_1, (a0_2, ()))), ((6 : Int), ()))) (
                              cond ((a1_0 == (2 : Int))) (
                                needs ((0 : Int) ≤ (c4).1) (
                                optAll ((a0_1)[(Int.toNat (c4).1)]?) fun (r12 : List DV) =>
                                optAll ((dInt IntKind.i64 r12 0)) fun (z13 : Int) =>
                                needs ((((a0_0).length * 16) ≤ 140737488355328) ∧ (((a0_0).length * 2) ≤ 140737488355328)) (
                                needs ((a0_0).length = (a0_0).length) (
                                needs (((((a0_0 ++ (([[(DV.v (Value.int IntKind.i64 a1_1)), (DV.v (Value.int IntKind.i64 a1_2))]]).take (1)))).length * 16) ≤ 140737488355328) ∧ ((((a0_0 ++ (([[(DV.v (Value.int IntKind.i64 a1_1)), (DV.v (Value.int IntKind.i64 a1_2))]]).take (1)))).length * 2) ≤ 140737488355328)) (
                                needs ((((a0_1).length * 8) ≤ 140737488355328) ∧ (((a0_1).length * 1) ≤ 140737488355328)) (
                                needs ((a0_1).length = (a0_1).length) (
                                needs (((((a0_1 ++ (([[(DV.v (Value.int IntKind.i64 (((a0_2).length : Nat) : Int)))]]).take (1)))).length * 8) ≤ 140737488355328) ∧ ((((a0_1 ++ (([[(DV.v (Value.int IntKind.i64 (((a0_2).length : Nat) : Int)))]]).take (1)))).length * 1) ≤ 140737488355328)) (
                                needs ((((a0_2).length * 8) ≤ 140737488355328) ∧ (((a0_2).length * 1) ≤ 140737488355328)) (
                                needs ((a0_2).length = (a0_2).length) (
                                needs (((((a0_2 ++ (([[(DV.v (Value.int IntKind.i64 z13))]]).take (1)))).length * 8) ≤ 140737488355328) ∧ ((((a0_2 ++ (([[(DV.v (Value.int IntKind.i64 z13))]]).take (1)))).length * 1) ≤ 140737488355328)) (
                                c = (((((a0_0 ++ (([[(DV.v (Value.int IntKind.i64 a1_1)), (DV.v (Value.int IntKind.i64 a1_2))]]).take (1)))).take (((a0_0 ++ (([[(DV.v (Value.int IntKind.i64 a1_1)), (DV.v (Value.int IntKind.i64 a1_2))]]).take (1)))).length)), ((((a0_1 ++ (([[(DV.v (Value.int IntKind.i64 (((a0_2).length : Nat) : Int)))]]).take (1)))).take (((a0_1 ++ (([[(DV.v (Value.int IntKind.i64 (((a0_2).length : Nat) : Int)))]]).take (1)))).length)), ((((a0_2 ++ (([[(DV.v (Value.int IntKind.i64 z13))]]).take (1)))).take (((a0_2 ++ (([[(DV.v (Value.int IntKind.i64 z13))]]).take (1)))).length)), ()))), ((0 : Int), ()))))))))))))) (
                                needs ((((a0_0).length * 16) ≤ 140737488355328) ∧ (((a0_0).length * 2) ≤ 140737488355328)) (
                                needs ((a0_0).length = (a0_0).length) (
                                needs (((((a0_0 ++ (([[(DV.v (Value.int IntKind.i64 a1_1)), (DV.v (Value.int IntKind.i64 a1_2))]]).take (1)))).length * 16) ≤ 140737488355328) ∧ ((((a0_0 ++ (([[(DV.v (Value.int IntKind.i64 a1_1)), (DV.v (Value.int IntKind.i64 a1_2))]]).take (1)))).length * 2) ≤ 140737488355328)) (
                                needs ((((a0_1).length * 8) ≤ 140737488355328) ∧ (((a0_1).length * 1) ≤ 140737488355328)) (
                                needs ((a0_1).length = (a0_1).length) (
                                needs (((((a0_1 ++ (([[(DV.v (Value.int IntKind.i64 (((a0_2).length : Nat) : Int)))]]).take (1)))).length * 8) ≤ 140737488355328) ∧ ((((a0_1 ++ (([[(DV.v (Value.int IntKind.i64 (((a0_2).length : Nat) : Int)))]]).take (1)))).length * 1) ≤ 140737488355328)) (
                                needs ((((a0_2).length * 8) ≤ 140737488355328) ∧ (((a0_2).length * 1) ≤ 140737488355328)) (
                                needs ((a0_2).length = (a0_2).length) (
                                needs (((((a0_2 ++ (([[(DV.v (Value.int IntKind.i64 (-1 : Int)))]]).take (1)))).length * 8) ≤ 140737488355328) ∧ ((((a0_2 ++ (([[(DV.v (Value.int IntKind.i64 (-1 : Int)))]]).take (1)))).length * 1) ≤ 140737488355328)) (
                                c = (((((a0_0 ++ (([[(DV.v (Value.int IntKind.i64 a1_1)), (DV.v (Value.int IntKind.i64 a1_2))]]).take (1)))).take (((a0_0 ++ (([[(DV.v (Value.int IntKind.i64 a1_1)), (DV.v (Value.int IntKind.i64 a1_2))]]).take (1)))).length)), ((((a0_1 ++ (([[(DV.v (Value.int IntKind.i64 (((a0_2).length : Nat) : Int)))]]).take (1)))).take (((a0_1 ++ (([[(DV.v (Value.int IntKind.i64 (((a0_2).length : Nat) : Int)))]]).take (1)))).length)), ((((a0_2 ++ (([[(DV.v (Value.int IntKind.i64 (-1 : Int)))]]).take (1)))).take (((a0_2 ++ (([[(DV.v (Value.int IntKind.i64 (-1 : Int)))]]).take (1)))).length)), ()))), ((0 : Int), ()))))))))))))))))) (
                      cond ((a1_0 == (3 : Int))) (
                        needs ((((a0_0).length * 16) ≤ 140737488355328) ∧ (((a0_0).length * 2) ≤ 140737488355328)) (
                        needs (((0 : Int) ≤ (c4).1) ∧ ((c4).1 < (((a0_0).length : Nat) : Int))) (
                        optAll ((a0_0)[(0 + (Int.toNat (c4).1))]?) fun (r14 : List DV) =>
                        needs (2 ≤ (r14).length) (
                        c = ((((((a0_0).set ((0 + (Int.toNat (c4).1))) (putD r14 0 [(DV.v (Value.int IntKind.i64 a1_1)), (DV.v (Value.int IntKind.i64 a1_2))]))).take ((a0_0).length)), (a0_1, (a0_2, ()))), ((0 : Int), ())))))) (
                        cond ((a1_0 == (4 : Int))) (
                          needs (((0 : Int) ≤ (0 : Int)) ∧ (((0 : Int) ≤ (c3).1) ∧ ((c3).1 ≤ (((a0_0).length : Nat) : Int)))) (
                          needs ((((((a0_0).take ((Int.toNat (c3).1)))).length * 16) ≤ 140737488355328) ∧ (((((a0_0).take ((Int.toNat (c3).1)))).length * 2) ≤ 140737488355328)) (
                          needs (((0 : Int) ≤ (IntKind.i64.wrap ((c3).1 + (1 : Int)))) ∧ (((IntKind.i64.wrap ((c3).1 + (1 : Int))) ≤ (((a0_0).length : Nat) : Int)) ∧ ((((a0_0).length : Nat) : Int) ≤ (((a0_0).length : Nat) : Int)))) (
                          needs ((((a0_0).take ((Int.toNat (c3).1)))).length = (((a0_0).take ((Int.toNat (c3).1)))).length) (
                          needs (((((((a0_0).take ((Int.toNat (c3).1))) ++ ((((a0_0).take ((Int.toNat (((a0_0).length : Nat) : Int))))).drop ((Int.toNat (IntKind.i64.wrap ((c3).1 + (1 : Int)))))))).length * 16) ≤ 140737488355328) ∧ ((((((a0_0).take ((Int.toNat (c3).1))) ++ ((((a0_0).take ((Int.toNat (((a0_0).length : Nat) : Int))))).drop ((Int.toNat (IntKind.i64.wrap ((c3).1 + (1 : Int)))))))).length * 2) ≤ 140737488355328)) (
                          needs (((0 : Int) ≤ (0 : Int)) ∧ (((0 : Int) ≤ (c3).1) ∧ ((c3).1 ≤ (((a0_1).length : Nat) : Int)))) (
                          needs ((((((a0_1).take ((Int.toNat (c3).1)))).length * 8) ≤ 140737488355328) ∧ (((((a0_1).take ((Int.toNat (c3).1)))).length * 1) ≤ 140737488355328)) (
                          needs (((0 : Int) ≤ (IntKind.i64.wrap ((c3).1 + (1 : Int)))) ∧ (((IntKind.i64.wrap ((c3).1 + (1 : Int))) ≤ (((a0_1).length : Nat) : Int)) ∧ ((((a0_1).length : Nat) : Int) ≤ (((a0_1).length : Nat) : Int)))) (
                          needs ((((a0_1).take ((Int.toNat (c3).1)))).length = (((a0_1).take ((Int.toNat (c3).1)))).length) (
                          needs (((((((a0_1).take ((Int.toNat (c3).1))) ++ ((((a0_1).take ((Int.toNat (((a0_1).length : Nat) : Int))))).drop ((Int.toNat (IntKind.i64.wrap ((c3).1 + (1 : Int)))))))).length * 8) ≤ 140737488355328) ∧ ((((((a0_1).take ((Int.toNat (c3).1))) ++ ((((a0_1).take ((Int.toNat (((a0_1).length : Nat) : Int))))).drop ((Int.toNat (IntKind.i64.wrap ((c3).1 + (1 : Int)))))))).length * 1) ≤ 140737488355328)) (
                          c = (((((((a0_0).take ((Int.toNat (c3).1))) ++ ((((a0_0).take ((Int.toNat (((a0_0).length : Nat) : Int))))).drop ((Int.toNat (IntKind.i64.wrap ((c3).1 + (1 : Int)))))))).take (((((a0_0).take ((Int.toNat (c3).1))) ++ ((((a0_0).take ((Int.toNat (((a0_0).length : Nat) : Int))))).drop ((Int.toNat (IntKind.i64.wrap ((c3).1 + (1 : Int)))))))).length)), ((((((a0_1).take ((Int.toNat (c3).1))) ++ ((((a0_1).take ((Int.toNat (((a0_1).length : Nat) : Int))))).drop ((Int.toNat (IntKind.i64.wrap ((c3).1 + (1 : Int)))))))).take (((((a0_1).take ((Int.toNat (c3).1))) ++ ((((a0_1).take ((Int.toNat (((a0_1).length : Nat) : Int))))).drop ((Int.toNat (IntKind.i64.wrap ((c3).1 + (1 : Int)))))))).length)), (a0_2, ()))), ((0 : Int), ()))))))))))))) (
                          cond (decide (((((a0_2).length : Nat) : Int) ≥ (4096 : Int)))) (
                            c = ((a0_0, (a0_1, (a0_2, ()))), ((6 : Int), ()))) (
                            cond ((a1_0 == (2 : Int))) (
                              needs ((0 : Int) ≤ (c4).1) (
                              optAll ((a0_1)[(Int.toNat (c4).1)]?) fun (r15 : List DV) =>
                              optAll ((dInt IntKind.i64 r15 0)) fun (z16 : Int) =>
                              needs ((((a0_0).length * 16) ≤ 140737488355328) ∧ (((a0_0).length * 2) ≤ 140737488355328)) (
                              needs ((a0_0).length = (a0_0).length) (
                              needs (((((a0_0 ++ (([[(DV.v (Value.int IntKind.i64 a1_1)), (DV.v (Value.int IntKind.i64 a1_2))]]).take (1)))).length * 16) ≤ 140737488355328) ∧ ((((a0_0 ++ (([[(DV.v (Value.int IntKind.i64 a1_1)), (DV.v (Value.int IntKind.i64 a1_2))]]).take (1)))).length * 2) ≤ 140737488355328)) (
                              needs ((((a0_1).length * 8) ≤ 140737488355328) ∧ (((a0_1).length * 1) ≤ 140737488355328)) (
                              needs ((a0_1).length = (a0_1).length) (
                              needs (((((a0_1 ++ (([[(DV.v (Value.int IntKind.i64 (((a0_2).length : Nat) : Int)))]]).take (1)))).length * 8) ≤ 140737488355328) ∧ ((((a0_1 ++ (([[(DV.v (Value.int IntKind.i64 (((a0_2).length : Nat) : Int)))]]).take (1)))).length * 1) ≤ 140737488355328)) (
                              needs ((((a0_2).length * 8) ≤ 140737488355328) ∧ (((a0_2).length * 1) ≤ 140737488355328)) (
                              needs ((a0_2).length = (a0_2).length) (
                              needs (((((a0_2 ++ (([[(DV.v (Value.int IntKind.i64 z16))]]).take (1)))).length * 8) ≤ 140737488355328) ∧ ((((a0_2 ++ (([[(DV.v (Value.int IntKind.i64 z16))]]).take (1)))).length * 1) ≤ 140737488355328)) (
                              c = (((((a0_0 ++ (([[(DV.v (Value.int IntKind.i64 a1_1)), (DV.v (Value.int IntKind.i64 a1_2))]]).take (1)))).take (((a0_0 ++ (([[(DV.v (Value.int IntKind.i64 a1_1)), (DV.v (Value.int IntKind.i64 a1_2))]]).take (1)))).length)), ((((a0_1 ++ (([[(DV.v (Value.int IntKind.i64 (((a0_2).length : Nat) : Int)))]]).take (1)))).take (((a0_1 ++ (([[(DV.v (Value.int IntKind.i64 (((a0_2).length : Nat) : Int)))]]).take (1)))).length)), ((((a0_2 ++ (([[(DV.v (Value.int IntKind.i64 z16))]]).take (1)))).take (((a0_2 ++ (([[(DV.v (Value.int IntKind.i64 z16))]]).take (1)))).length)), ()))), ((0 : Int), ()))))))))))))) (
                              needs ((((a0_0).length * 16) ≤ 140737488355328) ∧ (((a0_0).length * 2) ≤ 140737488355328)) (
                              needs ((a0_0).length = (a0_0).length) (
                              needs (((((a0_0 ++ (([[(DV.v (Value.int IntKind.i64 a1_1)), (DV.v (Value.int IntKind.i64 a1_2))]]).take (1)))).length * 16) ≤ 140737488355328) ∧ ((((a0_0 ++ (([[(DV.v (Value.int IntKind.i64 a1_1)), (DV.v (Value.int IntKind.i64 a1_2))]]).take (1)))).length * 2) ≤ 140737488355328)) (
                              needs ((((a0_1).length * 8) ≤ 140737488355328) ∧ (((a0_1).length * 1) ≤ 140737488355328)) (
                              needs ((a0_1).length = (a0_1).length) (
                              needs (((((a0_1 ++ (([[(DV.v (Value.int IntKind.i64 (((a0_2).length : Nat) : Int)))]]).take (1)))).length * 8) ≤ 140737488355328) ∧ ((((a0_1 ++ (([[(DV.v (Value.int IntKind.i64 (((a0_2).length : Nat) : Int)))]]).take (1)))).length * 1) ≤ 140737488355328)) (
                              needs ((((a0_2).length * 8) ≤ 140737488355328) ∧ (((a0_2).length * 1) ≤ 140737488355328)) (
                              needs ((a0_2).length = (a0_2).length) (
                              needs (((((a0_2 ++ (([[(DV.v (Value.int IntKind.i64 (-1 : Int)))]]).take (1)))).length * 8) ≤ 140737488355328) ∧ ((((a0_2 ++ (([[(DV.v (Value.int IntKind.i64 (-1 : Int)))]]).take (1)))).length * 1) ≤ 140737488355328)) (
                              c = (((((a0_0 ++ (([[(DV.v (Value.int IntKind.i64 a1_1)), (DV.v (Value.int IntKind.i64 a1_2))]]).take (1)))).take (((a0_0 ++ (([[(DV.v (Value.int IntKind.i64 a1_1)), (DV.v (Value.int IntKind.i64 a1_2))]]).take (1)))).length)), ((((a0_1 ++ (([[(DV.v (Value.int IntKind.i64 (((a0_2).length : Nat) : Int)))]]).take (1)))).take (((a0_1 ++ (([[(DV.v (Value.int IntKind.i64 (((a0_2).length : Nat) : Int)))]]).take (1)))).length)), ((((a0_2 ++ (([[(DV.v (Value.int IntKind.i64 (-1 : Int)))]]).take (1)))).take (((a0_2 ++ (([[(DV.v (Value.int IntKind.i64 (-1 : Int)))]]).take (1)))).length)), ()))), ((0 : Int), ())))))))))))))))))))))))) (
      optAll (ref14_Is.R a0_0 a0_1 a0_2) fun (c17 : (Bool × Unit)) =>
      cond ((!(c17).1)) (
        c = ((a0_0, (a0_1, (a0_2, ()))), ((2 : Int), ()))) (
        cond (decide ((a1_0 < (1 : Int)))) (
          c = ((a0_0, (a0_1, (a0_2, ()))), ((2 : Int), ()))) (
          cond (decide ((a1_0 > (4 : Int)))) (
            c = ((a0_0, (a0_1, (a0_2, ()))), ((2 : Int), ()))) (
            optAll (ref06_Is.R a1_1 a1_2) fun (c18 : (Bool × Unit)) =>
            cond ((!(c18).1)) (
              c = ((a0_0, (a0_1, (a0_2, ()))), ((2 : Int), ()))) (
              cond ((a1_0 == (3 : Int))) (
                optAll (ref06_Is.R a1_3 a1_4) fun (c19 : (Bool × Unit)) =>
                cond ((!(c19).1)) (
                  c = ((a0_0, (a0_1, (a0_2, ()))), ((2 : Int), ()))) (
                  optAll (ref14_find.R a0_0 a0_1 a0_2 a1_1 a1_2) fun (c20 : (Int × Unit)) =>
                  optAll (ref14_find.R a0_0 a0_1 a0_2 a1_3 a1_4) fun (c21 : (Int × Unit)) =>
                  cond ((a1_0 == (3 : Int))) (
                    cond (decide (((c21).1 < (0 : Int)))) (
                      c = ((a0_0, (a0_1, (a0_2, ()))), ((7 : Int), ()))) (
                      cond ((a1_0 == (4 : Int))) (
                        cond (decide (((c20).1 < (0 : Int)))) (
                          c = ((a0_0, (a0_1, (a0_2, ()))), ((7 : Int), ()))) (
                          cond ((a1_0 != (4 : Int))) (
                            cond (decide (((c20).1 ≥ (0 : Int)))) (
                              c = ((a0_0, (a0_1, (a0_2, ()))), ((8 : Int), ()))) (
                              cond ((a1_0 == (3 : Int))) (
                                needs ((((a0_0).length * 16) ≤ 140737488355328) ∧ (((a0_0).length * 2) ≤ 140737488355328)) (
                                needs (((0 : Int) ≤ (c21).1) ∧ ((c21).1 < (((a0_0).length : Nat) : Int))) (
                                optAll ((a0_0)[(0 + (Int.toNat (c21).1))]?) fun (r22 : List DV) =>
                                needs (2 ≤ (r22).length) (
                                c = ((((((a0_0).set ((0 + (Int.toNat (c21).1))) (putD r22 0 [(DV.v (Value.int IntKind.i64 a1_1)), (DV.v (Value.int IntKind.i64 a1_2))]))).take ((a0_0).length)), (a0_1, (a0_2, ()))), ((0 : Int), ())))))) (
                                cond ((a1_0 == (4 : Int))) (
                                  needs (((0 : Int) ≤ (0 : Int)) ∧ (((0 : Int) ≤ (c20).1) ∧ ((c20).1 ≤ (((a0_0).length : Nat) : Int)))) (
                                  needs ((((((a0_0).take ((Int.toNat (c20).1)))).length * 16) ≤ 140737488355328) ∧ (((((a0_0).take ((Int.toNat (c20).1)))).length * 2) ≤ 140737488355328)) (
                                  needs (((0 : Int) ≤ (IntKind.i64.wrap ((c20).1 + (1 : Int)))) ∧ (((IntKind.i64.wrap ((c20).1 + (1 : Int))) ≤ (((a0_0).length : Nat) : Int)) ∧ ((((a0_0).length : Nat) : Int) ≤ (((a0_0).length : Nat) : Int)))) (
                                  needs ((((a0_0).take ((Int.toNat (c20).1)))).length = (((a0_0).take ((Int.toNat (c20).1)))).length) (
                                  needs (((((((a0_0).take ((Int.toNat (c20).1))) ++ ((((a0_0).take ((Int.toNat (((a0_0).length : Nat) : Int))))).drop ((Int.toNat (IntKind.i64.wrap ((c20).1 + (1 : Int)))))))).length * 16) ≤ 140737488355328) ∧ ((((((a0_0).take ((Int.toNat (c20).1))) ++ ((((a0_0).take ((Int.toNat (((a0_0).length : Nat) : Int))))).drop ((Int.toNat (IntKind.i64.wrap ((c20).1 + (1 : Int)))))))).length * 2) ≤ 140737488355328)) (
                                  needs (((0 : Int) ≤ (0 : Int)) ∧ (((0 : Int) ≤ (c20).1) ∧ ((c20).1 ≤ (((a0_1).length : Nat) : Int)))) (
                                  needs ((((((a0_1).take ((Int.toNat (c20).1)))).length * 8) ≤ 140737488355328) ∧ (((((a0_1).take ((Int.toNat (c20).1)))).length * 1) ≤ 140737488355328)) (
                                  needs (((0 : Int) ≤ (IntKind.i64.wrap ((c20).1 + (1 : Int)))) ∧ (((IntKind.i64.wrap ((c20).1 + (1 : Int))) ≤ (((a0_1).length : Nat) : Int)) ∧ ((((a0_1).length : Nat) : Int) ≤ (((a0_1).length : Nat) : Int)))) (
                                  needs ((((a0_1).take ((Int.toNat (c20).1)))).length = (((a0_1).take ((Int.toNat (c20).1)))).length) (
                                  needs (((((((a0_1).take ((Int.toNat (c20).1))) ++ ((((a0_1).take ((Int.toNat (((a0_1).length : Nat) : Int))))).drop ((Int.toNat (IntKind.i64.wrap ((c20).1 + (1 : Int)))))))).length * 8) ≤ 140737488355328) ∧ ((((((a0_1).take ((Int.toNat (c20).1))) ++ ((((a0_1).take ((Int.toNat (((a0_1).length : Nat) : Int))))).drop ((Int.toNat (IntKind.i64.wrap ((c20).1 + (1 : Int)))))))).length * 1) ≤ 140737488355328)) (
                                  c = (((((((a0_0).take ((Int.toNat (c20).1))) ++ ((((a0_0).take ((Int.toNat (((a0_0).length : Nat) : Int))))).drop ((Int.toNat (IntKind.i64.wrap ((c20).1 + (1 : Int)))))))).take (((((a0_0).take ((Int.toNat (c20).1))) ++ ((((a0_0).take ((Int.toNat (((a0_0).length : Nat) : Int))))).drop ((Int.toNat (IntKind.i64.wrap ((c20).1 + (1 : Int)))))))).length)), ((((((a0_1).take ((Int.toNat (c20).1))) ++ ((((a0_1).take ((Int.toNat (((a0_1).length : Nat) : Int))))).drop ((Int.toNat (IntKind.i64.wrap ((c20).1 + (1 : Int)))))))).take (((((a0_1).take ((Int.toNat (c20).1))) ++ ((((a0_1).take ((Int.toNat (((a0_1).length : Nat) : Int))))).drop ((Int.toNat (IntKind.i64.wrap ((c20).1 + (1 : Int)))))))).length)), (a0_2, ()))), ((0 : Int), ()))))))))))))) (
                                  cond (decide (((((a0_2).length : Nat) : Int) ≥ (4096 : Int)))) (
                                    c = ((a0_0, (a0_1, (a0_2, ()))), ((6 : Int), ()))) (
                                    cond ((a1_0 == (2 : Int))) (
                                      needs ((0 : Int) ≤ (c21).1) (
                                      optAll ((a0_1)[(Int.toNat (c21).1)]?) fun (r23 : List DV) =>
                                      optAll ((dInt IntKind.i64 r23 0)) fun (z24 : Int) =>
                                      needs ((((a0_0).length * 16) ≤ 140737488355328) ∧ (((a0_0).length * 2) ≤ 140737488355328)) (
                                      needs ((a0_0).length = (a0_0).length) (
                                      needs (((((a0_0 ++ (([[(DV.v (Value.int IntKind.i64 a1_1)), (DV.v (Value.int IntKind.i64 a1_2))]]).take (1)))).length * 16) ≤ 140737488355328) ∧ ((((a0_0 ++ (([[(DV.v (Value.int IntKind.i64 a1_1)), (DV.v (Value.int IntKind.i64 a1_2))]]).take (1)))).length * 2) ≤ 140737488355328)) (
                                      needs ((((a0_1).length * 8) ≤ 140737488355328) ∧ (((a0_1).length * 1) ≤ 140737488355328)) (
                                      needs ((a0_1).length = (a0_1).length) (
                                      needs (((((a0_1 ++ (([[(DV.v (Value.int IntKind.i64 (((a0_2).length : Nat) : Int)))]]).take (1)))).length * 8) ≤ 140737488355328) ∧ ((((a0_1 ++ (([[(DV.v (Value.int IntKind.i64 (((a0_2).length : Nat) : Int)))]]).take (1)))).length * 1) ≤ 140737488355328)) (
                                      needs ((((a0_2).length * 8) ≤ 140737488355328) ∧ (((a0_2).length * 1) ≤ 140737488355328)) (
                                      needs ((a0_2).length = (a0_2).length) (
                                      needs (((((a0_2 ++ (([[(DV.v (Value.int IntKind.i64 z24))]]).take (1)))).length * 8) ≤ 140737488355328) ∧ ((((a0_2 ++ (([[(DV.v (Value.int IntKind.i64 z24))]]).take (1)))).length * 1) ≤ 140737488355328)) (
                                      c = (((((a0_0 ++ (([[(DV.v (Value.int IntKind.i64 a1_1)), (DV.v (Value.int IntKind.i64 a1_2))]]).take (1)))).take (((a0_0 ++ (([[(DV.v (Value.int IntKind.i64 a1_1)), (DV.v (Value.int IntKind.i64 a1_2))]]).take (1)))).length)), ((((a0_1 ++ (([[(DV.v (Value.int IntKind.i64 (((a0_2).length : Nat) : Int)))]]).take (1)))).take (((a0_1 ++ (([[(DV.v (Value.int IntKind.i64 (((a0_2).length : Nat) : Int)))]]).take (1)))).length)), ((((a0_2 ++ (([[(DV.v (Value.int IntKind.i64 z24))]]).take (1)))).take (((a0_2 ++ (([[(DV.v (Value.int IntKind.i64 z24))]]).take (1)))).length)), ()))), ((0 : Int), ()))))))))))))) (
                                      needs ((((a0_0).length * 16) ≤ 140737488355328) ∧ (((a0_0).length * 2) ≤ 140737488355328)) (
                                      needs ((a0_0).length = (a0_0).length) (
                                      needs (((((a0_0 ++ (([[(DV.v (Value.int IntKind.i64 a1_1)), (DV.v (Value.int IntKind.i64 a1_2))]]).take (1)))).length * 16) ≤ 140737488355328) ∧ ((((a0_0 ++ (([[(DV.v (Value.int IntKind.i64 a1_1)), (DV.v (Value.int IntKind.i64 a1_2))]]).take (1)))).length * 2) ≤ 140737488355328)) (
                                      needs ((((a0_1).length * 8) ≤ 140737488355328) ∧ (((a0_1).length * 1) ≤ 140737488355328)) (
                                      needs ((a0_1).length = (a0_1).length) (
                                      needs (((((a0_1 ++ (([[(DV.v (Value.int IntKind.i64 (((a0_2).length : Nat) : Int)))]]).take (1)))).length * 8) ≤ 140737488355328) ∧ ((((a0_1 ++ (([[(DV.v (Value.int IntKind.i64 (((a0_2).length : Nat) : Int)))]]).take (1)))).length * 1) ≤ 140737488355328)) (
                                      needs ((((a0_2).length * 8) ≤ 140737488355328) ∧ (((a0_2).length * 1) ≤ 140737488355328)) (
                                      needs ((a0_2).length = (a0_2).length) (
                                      needs (((((a0_2 ++ (([[(DV.v (Value.int IntKind.i64 (-1 : Int)))]]).take (1)))).length * 8) ≤ 140737488355328) ∧ ((((a0_2 ++ (([[(DV.v (Value.int IntKind.i64 (-1 : Int)))]]).take (1)))).length * 1) ≤ 140737488355328)) (
                                      c = (((((a0_0 ++ (([[(DV.v (Value.int IntKind.i64 a1_1)), (DV.v (Value.int IntKind.i64 a1_2))]]).take (1)))).take (((a0_0 ++ (([[(DV.v (Value.int IntKind.i64 a1_1)), (DV.v (Value.int IntKind.i64 a1_2))]]).take (1)))).length)), ((((a0_1 ++ (([[(DV.v (Value.int IntKind.i64 (((a0_2).length : Nat) : Int)))]]).take (1)))).take (((a0_1 ++ (([[(DV.v (Value.int IntKind.i64 (((a0_2).length : Nat) : Int)))]]).take (1)))).length)), ((((a0_2 ++ (([[(DV.v (Value.int IntKind.i64 (-1 : Int)))]]).take (1)))).take (((a0_2 ++ (([[(DV.v (Value.int IntKind.i64 (-1 : Int)))]]).take (1)))).length)), ()))), ((0 : Int), ()))))))))))))))))) (
                            cond ((a1_0 == (3 : Int))) (
                              needs ((((a0_0).length * 16) ≤ 140737488355328) ∧ (((a0_0).length * 2) ≤ 140737488355328)) (
                              needs (((0 : Int) ≤ (c21).1) ∧ ((c21).1 < (((a0_0).length : Nat) : Int))) (
                              optAll ((a0_0)[(0 + (Int.toNat (c21).1))]?) fun (r25 : List DV) =>
                              needs (2 ≤ (r25).length) (
                              c = ((((((a0_0).set ((0 + (Int.toNat (c21).1))) (putD r25 0 [(DV.v (Value.int IntKind.i64 a1_1)), (DV.v (Value.int IntKind.i64 a1_2))]))).take ((a0_0).length)), (a0_1, (a0_2, ()))), ((0 : Int), ())))))) (
                              cond ((a1_0 == (4 : Int))) (
                                needs (((0 : Int) ≤ (0 : Int)) ∧ (((0 : Int) ≤ (c20).1) ∧ ((c20).1 ≤ (((a0_0).length : Nat) : Int)))) (
                                needs ((((((a0_0).take ((Int.toNat (c20).1)))).length * 16) ≤ 140737488355328) ∧ (((((a0_0).take ((Int.toNat (c20).1)))).length * 2) ≤ 140737488355328)) (
                                needs (((0 : Int) ≤ (IntKind.i64.wrap ((c20).1 + (1 : Int)))) ∧ (((IntKind.i64.wrap ((c20).1 + (1 : Int))) ≤ (((a0_0).length : Nat) : Int)) ∧ ((((a0_0).length : Nat) : Int) ≤ (((a0_0).length : Nat) : Int)))) (
                                needs ((((a0_0).take ((Int.toNat (c20).1)))).length = (((a0_0).take ((Int.toNat (c20).1)))).length) (
                                needs (((((((a0_0).take ((Int.toNat (c20).1))) ++ ((((a0_0).take ((Int.toNat (((a0_0).length : Nat) : Int))))).drop ((Int.toNat (IntKind.i64.wrap ((c20).1 + (1 : Int)))))))).length * 16) ≤ 140737488355328) ∧ ((((((a0_0).take ((Int.toNat (c20).1))) ++ ((((a0_0).take ((Int.toNat (((a0_0).length : Nat) : Int))))).drop ((Int.toNat (IntKind.i64.wrap ((c20).1 + (1 : Int)))))))).length * 2) ≤ 140737488355328)) (
                                needs (((0 : Int) ≤ (0 : Int)) ∧ (((0 : Int) ≤ (c20).1) ∧ ((c20).1 ≤ (((a0_1).length : Nat) : Int)))) (
                                needs ((((((a0_1).take ((Int.toNat (c20).1)))).length * 8) ≤ 140737488355328) ∧ (((((a0_1).take ((Int.toNat (c20).1)))).length * 1) ≤ 140737488355328)) (
                                needs (((0 : Int) ≤ (IntKind.i64.wrap ((c20).1 + (1 : Int)))) ∧ (((IntKind.i64.wrap ((c20).1 + (1 : Int))) ≤ (((a0_1).length : Nat) : Int)) ∧ ((((a0_1).length : Nat) : Int) ≤ (((a0_1).length : Nat) : Int)))) (
                                needs ((((a0_1).take ((Int.toNat (c20).1)))).length = (((a0_1).take ((Int.toNat (c20).1)))).length) (
                                needs (((((((a0_1).take ((Int.toNat (c20).1))) ++ ((((a0_1).take ((Int.toNat (((a0_1).length : Nat) : Int))))).drop ((Int.toNat (IntKind.i64.wrap ((c20).1 + (1 : Int)))))))).length * 8) ≤ 140737488355328) ∧ ((((((a0_1).take ((Int.toNat (c20).1))) ++ ((((a0_1).take ((Int.toNat (((a0_1).length : Nat) : Int))))).drop ((Int.toNat (IntKind.i64.wrap ((c20).1 + (1 : Int)))))))).length * 1) ≤ 140737488355328)) (
                                c = (((((((a0_0).take ((Int.toNat (c20).1))) ++ ((((a0_0).take ((Int.toNat (((a0_0).length : Nat) : Int))))).drop ((Int.toNat (IntKind.i64.wrap ((c20).1 + (1 : Int)))))))).take (((((a0_0).take ((Int.toNat (c20).1))) ++ ((((a0_0).take ((Int.toNat (((a0_0).length : Nat) : Int))))).drop ((Int.toNat (IntKind.i64.wrap ((c20).1 + (1 : Int)))))))).length)), ((((((a0_1).take ((Int.toNat (c20).1))) ++ ((((a0_1).take ((Int.toNat (((a0_1).length : Nat) : Int))))).drop ((Int.toNat (IntKind.i64.wrap ((c20).1 + (1 : Int)))))))).take (((((a0_1).take ((Int.toNat (c20).1))) ++ ((((a0_1).take ((Int.toNat (((a0_1).length : Nat) : Int))))).drop ((Int.toNat (IntKind.i64.wrap ((c20).1 + (1 : Int)))))))).length)), (a0_2, ()))), ((0 : Int), ()))))))))))))) (
                                cond (decide (((((a0_2).length : Nat) : Int) ≥ (4096 : Int)))) (
                                  c = ((a0_0, (a0_1, (a0_2, ()))), ((6 : Int), ()))) (
                                  cond ((a1_0 == (2 : Int))) (
                                    needs ((0 : Int) ≤ (c21).1) (
                                    optAll ((a0_1)[(Int.toNat (c21).1)]?) fun (r26 : List DV) =>
                                    optAll ((dInt IntKind.i64 r26 0)) fun (z27 : Int) =>
                                    needs ((((a0_0).length * 16) ≤ 140737488355328) ∧ (((a0_0).length * 2) ≤ 140737488355328)) (
                                    needs ((a0_0).length = (a0_0).length) (
                                    needs (((((a0_0 ++ (([[(DV.v (Value.int IntKind.i64 a1_1)), (DV.v (Value.int IntKind.i64 a1_2))]]).take (1)))).length * 16) ≤ 140737488355328) ∧ ((((a0_0 ++ (([[(DV.v (Value.int IntKind.i64 a1_1)), (DV.v (Value.int IntKind.i64 a1_2))]]).take (1)))).length * 2) ≤ 140737488355328)) (
                                    needs ((((a0_1).length * 8) ≤ 140737488355328) ∧ (((a0_1).length * 1) ≤ 140737488355328)) (
                                    needs ((a0_1).length = (a0_1).length) (
                                    needs (((((a0_1 ++ (([[(DV.v (Value.int IntKind.i64 (((a0_2).length : Nat) : Int)))]]).take (1)))).length * 8) ≤ 140737488355328) ∧ ((((a0_1 ++ (([[(DV.v (Value.int IntKind.i64 (((a0_2).length : Nat) : Int)))]]).take (1)))).length * 1) ≤ 140737488355328)) (
                                    needs ((((a0_2).length * 8) ≤ 140737488355328) ∧ (((a0_2).length * 1) ≤ 140737488355328)) (
                                    needs ((a0_2).length = (a0_2).length) (
                                    needs (((((a0_2 ++ (([[(DV.v (Value.int IntKind.i64 z27))]]).take (1)))).length * 8) ≤ 140737488355328) ∧ ((((a0_2 ++ (([[(DV.v (Value.int IntKind.i64 z27))]]).take (1)))).length * 1) ≤ 140737488355328)) (
                                    c = (((((a0_0 ++ (([[(DV.v (Value.int IntKind.i64 a1_1)), (DV.v (Value.int IntKind.i64 a1_2))]]).take (1)))).take (((a0_0 ++ (([[(DV.v (Value.int IntKind.i64 a1_1)), (DV.v (Value.int IntKind.i64 a1_2))]]).take (1)))).length)), ((((a0_1 ++ (([[(DV.v (Value.int IntKind.i64 (((a0_2).length : Nat) : Int)))]]).take (1)))).take (((a0_1 ++ (([[(DV.v (Value.int IntKind.i64 (((a0_2).length : Nat) : Int)))]]).take (1)))).length)), ((((a0_2 ++ (([[(DV.v (Value.int IntKind.i64 z27))]]).take (1)))).take (((a0_2 ++ (([[(DV.v (Value.int IntKind.i64 z27))]]).take (1)))).length)), ()))), ((0 : Int), ()))))))))))))) (
                                    needs ((((a0_0).length * 16) ≤ 140737488355328) ∧ (((a0_0).length * 2) ≤ 140737488355328)) (
                                    needs ((a0_0).length = (a0_0).length) (
                                    needs (((((a0_0 ++ (([[(DV.v (Value.int IntKind.i64 a1_1)), (DV.v (Value.int IntKind.i64 a1_2))]]).take (1)))).length * 16) ≤ 140737488355328) ∧ ((((a0_0 ++ (([[(DV.v (Value.int IntKind.i64 a1_1)), (DV.v (Value.int IntKind.i64 a1_2))]]).take (1)))).length * 2) ≤ 140737488355328)) (
                                    needs ((((a0_1).length * 8) ≤ 140737488355328) ∧ (((a0_1).length * 1) ≤ 140737488355328)) (
                                    needs ((a0_1).length = (a0_1).length) (
                                    needs (((((a0_1 ++ (([[(DV.v (Value.int IntKind.i64 (((a0_2).length : Nat) : Int)))]]).take (1)))).length * 8) ≤ 140737488355328) ∧ ((((a0_1 ++ (([[(DV.v (Value.int IntKind.i64 (((a0_2).length : Nat) : Int)))]]).take (1)))).length * 1) ≤ 140737488355328)) (
                                    needs ((((a0_2).length * 8) ≤ 140737488355328) ∧ (((a0_2).length * 1) ≤ 140737488355328)) (
                                    needs ((a0_2).length = (a0_2).length) (
                                    needs (((((a0_2 ++ (([[(DV.v (Value.int IntKind.i64 (-1 : Int)))]]).take (1)))).length * 8) ≤ 140737488355328) ∧ ((((a0_2 ++ (([[(DV.v (Value.int IntKind.i64 (-1 : Int)))]]).take (1)))).length * 1) ≤ 140737488355328)) (
                                    c = (((((a0_0 ++ (([[(DV.v (Value.int IntKind.i64 a1_1)), (DV.v (Value.int IntKind.i64 a1_2))]]).take (1)))).take (((a0_0 ++ (([[(DV.v (Value.int IntKind.i64 a1_1)), (DV.v (Value.int IntKind.i64 a1_2))]]).take (1)))).length)), ((((a0_1 ++ (([[(DV.v (Value.int IntKind.i64 (((a0_2).length : Nat) : Int)))]]).take (1)))).take (((a0_1 ++ (([[(DV.v (Value.int IntKind.i64 (((a0_2).length : Nat) : Int)))]]).take (1)))).length)), ((((a0_2 ++ (([[(DV.v (Value.int IntKind.i64 (-1 : Int)))]]).take (1)))).take (((a0_2 ++ (([[(DV.v (Value.int IntKind.i64 (-1 : Int)))]]).take (1)))).length)), ()))), ((0 : Int), ())))))))))))))))))) (
                        cond ((a1_0 != (4 : Int))) (
                          cond (decide (((c20).1 ≥ (0 : Int)))) (
                            c = ((a0_0, (a0_1, (a0_2, ()))), ((8 : Int), ()))) (
                            cond ((a1_0 == (3 : Int))) (
                              needs ((((a0_0).length * 16) ≤ 140737488355328) ∧ (((a0_0).length * 2) ≤ 140737488355328)) (
                              needs (((0 : Int) ≤ (c21).1) ∧ ((c21).1 < (((a0_0).length : Nat) : Int))) (
                              optAll ((a0_0)[(0 + (Int.toNat (c21).1))]?) fun (r28 : List DV) =>
                              needs (2 ≤ (r28).length) (
                              c = ((((((a0_0).set ((0 + (Int.toNat (c21).1))) (putD r28 0 [(DV.v (Value.int IntKind.i64 a1_1)), (DV.v (Value.int IntKind.i64 a1_2))]))).take ((a0_0).length)), (a0_1, (a0_2, ()))), ((0 : Int), ())))))) (
                              cond ((a1_0 == (4 : Int))) (
                                needs (((0 : Int) ≤ (0 : Int)) ∧ (((0 : Int) ≤ (c20).1) ∧ ((c20).1 ≤ (((a0_0).length : Nat) : Int)))) (
                                needs ((((((a0_0).take ((Int.toNat (c20).1)))).length * 16) ≤ 140737488355328) ∧ (((((a0_0).take ((Int.toNat (c20).1)))).length * 2) ≤ 140737488355328)) (
                                needs (((0 : Int) ≤ (IntKind.i64.wrap ((c20).1 + (1 : Int)))) ∧ (((IntKind.i64.wrap ((c20).1 + (1 : Int))) ≤ (((a0_0).length : Nat) : Int)) ∧ ((((a0_0).length : Nat) : Int) ≤ (((a0_0).length : Nat) : Int)))) (
                                needs ((((a0_0).take ((Int.toNat (c20).1)))).length = (((a0_0).take ((Int.toNat (c20).1)))).length) (
                                needs (((((((a0_0).take ((Int.toNat (c20).1))) ++ ((((a0_0).take ((Int.toNat (((a0_0).length : Nat) : Int))))).drop ((Int.toNat (IntKind.i64.wrap ((c20).1 + (1 : Int)))))))).length * 16) ≤ 140737488355328) ∧ ((((((a0_0).take ((Int.toNat (c20).1))) ++ ((((a0_0).take ((Int.toNat (((a0_0).length : Nat) : Int))))).drop ((Int.toNat (IntKind.i64.wrap ((c20).1 + (1 : Int)))))))).length * 2) ≤ 140737488355328)) (
                                needs (((0 : Int) ≤ (0 : Int)) ∧ (((0 : Int) ≤ (c20).1) ∧ ((c20).1 ≤ (((a0_1).length : Nat) : Int)))) (
                                needs ((((((a0_1).take ((Int.toNat (c20).1)))).length * 8) ≤ 140737488355328) ∧ (((((a0_1).take ((Int.toNat (c20).1)))).length * 1) ≤ 140737488355328)) (
                                needs (((0 : Int) ≤ (IntKind.i64.wrap ((c20).1 + (1 : Int)))) ∧ (((IntKind.i64.wrap ((c20).1 + (1 : Int))) ≤ (((a0_1).length : Nat) : Int)) ∧ ((((a0_1).length : Nat) : Int) ≤ (((a0_1).length : Nat) : Int)))) (
                                needs ((((a0_1).take ((Int.toNat (c20).1)))).length = (((a0_1).take ((Int.toNat (c20).1)))).length) (
                                needs (((((((a0_1).take ((Int.toNat (c20).1))) ++ ((((a0_1).take ((Int.toNat (((a0_1).length : Nat) : Int))))).drop ((Int.toNat (IntKind.i64.wrap ((c20).1 + (1 : Int)))))))).length * 8) ≤ 140737488355328) ∧ ((((((a0_1).take ((Int.toNat (c20).1))) ++ ((((a0_1).take ((Int.toNat (((a0_1).length : Nat) : Int))))).drop ((Int.toNat (IntKind.i64.wrap ((c20).1 + (1 : Int)))))))).length * 1) ≤ 140737488355328)) (
                                c = (((((((a0_0).take ((Int.toNat (c20).1))) ++ ((((a0_0).take ((Int.toNat (((a0_0).length : Nat) : Int))))).drop ((Int.toNat (IntKind.i64.wrap ((c20).1 + (1 : Int)))))))).take (((((a0_0).take ((Int.toNat (c20).1))) ++ ((((a0_0).take ((Int.toNat (((a0_0).length : Nat) : Int))))).drop ((Int.toNat (IntKind.i64.wrap ((c20).1 + (1 : Int)))))))).length)), ((((((a0_1).take ((Int.toNat (c20).1))) ++ ((((a0_1).take ((Int.toNat (((a0_1).length : Nat) : Int))))).drop ((Int.toNat (IntKind.i64.wrap ((c20).1 + (1 : Int)))))))).take (((((a0_1).take ((Int.toNat (c20).1))) ++ ((((a0_1).take ((Int.toNat (((a0_1).length : Nat) : Int))))).drop ((Int.toNat (IntKind.i64.wrap ((c20).1 + (1 : Int)))))))).length)), (a0_2, ()))), ((0 : Int), ()))))))))))))) (
                                cond (decide (((((a0_2).length : Nat) : Int) ≥ (4096 : Int)))) (
                                  c = ((a0_0, (a0_1, (a0_2, ()))), ((6 : Int), ()))) (
                                  cond ((a1_0 == (2 : Int))) (
                                    needs ((0 : Int) ≤ (c21).1) (
                                    optAll ((a0_1)[(Int.toNat (c21).1)]?) fun (r29 : List DV) =>
                                    optAll ((dInt IntKind.i64 r29 0)) fun (z30 : Int) =>
                                    needs ((((a0_0).length * 16) ≤ 140737488355328) ∧ (((a0_0).length * 2) ≤ 140737488355328)) (
                                    needs ((a0_0).length = (a0_0).length) (
                                    needs (((((a0_0 ++ (([[(DV.v (Value.int IntKind.i64 a1_1)), (DV.v (Value.int IntKind.i64 a1_2))]]).take (1)))).length * 16) ≤ 140737488355328) ∧ ((((a0_0 ++ (([[(DV.v (Value.int IntKind.i64 a1_1)), (DV.v (Value.int IntKind.i64 a1_2))]]).take (1)))).length * 2) ≤ 140737488355328)) (
                                    needs ((((a0_1).length * 8) ≤ 140737488355328) ∧ (((a0_1).length * 1) ≤ 140737488355328)) (
                                    needs ((a0_1).length = (a0_1).length) (
                                    needs (((((a0_1 ++ (([[(DV.v (Value.int IntKind.i64 (((a0_2).length : Nat) : Int)))]]).take (1)))).length * 8) ≤ 140737488355328) ∧ ((((a0_1 ++ (([[(DV.v (Value.int IntKind.i64 (((a0_2).length : Nat) : Int)))]]).take (1)))).length * 1) ≤ 140737488355328)) (
                                    needs ((((a0_2).length * 8) ≤ 140737488355328) ∧ (((a0_2).length * 1) ≤ 140737488355328)) (
                                    needs ((a0_2).length = (a0_2).length) (
                                    needs (((((a0_2 ++ (([[(DV.v (Value.int IntKind.i64 z30))]]).take (1)))).length * 8) ≤ 140737488355328) ∧ ((((a0_2 ++ (([[(DV.v (Value.int IntKind.i64 z30))]]).take (1)))).length * 1) ≤ 140737488355328)) (
                                    c = (((((a0_0 ++ (([[(DV.v (Value.int IntKind.i64 a1_1)), (DV.v (Value.int IntKind.i64 a1_2))]]).take (1)))).take (((a0_0 ++ (([[(DV.v (Value.int IntKind.i64 a1_1)), (DV.v (Value.int IntKind.i64 a1_2))]]).take (1)))).length)), ((((a0_1 ++ (([[(DV.v (Value.int IntKind.i64 (((a0_2).length : Nat) : Int)))]]).take (1)))).take (((a0_1 ++ (([[(DV.v (Value.int IntKind.i64 (((a0_2).length : Nat) : Int)))]]).take (1)))).length)), ((((a0_2 ++ (([[(DV.v (Value.int IntKind.i64 z30))]]).take (1)))).take (((a0_2 ++ (([[(DV.v (Value.int IntKind.i64 z30))]]).take (1)))).length)), ()))), ((0 : Int), ()))))))))))))) (
                                    needs ((((a0_0).length * 16) ≤ 140737488355328) ∧ (((a0_0).length * 2) ≤ 140737488355328)) (
                                    needs ((a0_0).length = (a0_0).length) (
                                    needs (((((a0_0 ++ (([[(DV.v (Value.int IntKind.i64 a1_1)), (DV.v (Value.int IntKind.i64 a1_2))]]).take (1)))).length * 16) ≤ 140737488355328) ∧ ((((a0_0 ++ (([[(DV.v (Value.int IntKind.i64 a1_1)), (DV.v (Value.int IntKind.i64 a1_2))]]).take (1)))).length * 2) ≤ 140737488355328)) (
                                    needs ((((a0_1).length * 8) ≤ 140737488355328) ∧ (((a0_1).length * 1) ≤ 140737488355328)) (
                                    needs ((a0_1).length = (a0_1).length) (
                                    needs (((((a0_1 ++ (([[(DV.v (Value.int IntKind.i64 (((a0_2).length : Nat) : Int)))]]).take (1)))).length * 8) ≤ 140737488355328) ∧ ((((a0_1 ++ (([[(DV.v (Value.int IntKind.i64 (((a0_2).length : Nat) : Int)))]]).take (1)))).length * 1) ≤ 140737488355328)) (
                                    needs ((((a0_2).length * 8) ≤ 140737488355328) ∧ (((a0_2).length * 1) ≤ 140737488355328)) (
                                    needs ((a0_2).length = (a0_2).length) (
                                    needs (((((a0_2 ++ (([[(DV.v (Value.int IntKind.i64 (-1 : Int)))]]).take (1)))).length * 8) ≤ 140737488355328) ∧ ((((a0_2 ++ (([[(DV.v (Value.int IntKind.i64 (-1 : Int)))]]).take (1)))).length * 1) ≤ 140737488355328)) (
                                    c = (((((a0_0 ++ (([[(DV.v (Value.int IntKind.i64 a1_1)), (DV.v (Value.int IntKind.i64 a1_2))]]).take (1)))).take (((a0_0 ++ (([[(DV.v (Value.int IntKind.i64 a1_1)), (DV.v (Value.int IntKind.i64 a1_2))]]).take (1)))).length)), ((((a0_1 ++ (([[(DV.v (Value.int IntKind.i64 (((a0_2).length : Nat) : Int)))]]).take (1)))).take (((a0_1 ++ (([[(DV.v (Value.int IntKind.i64 (((a0_2).length : Nat) : Int)))]]).take (1)))).length)), ((((a0_2 ++ (([[(DV.v (Value.int IntKind.i64 (-1 : Int)))]]).take (1)))).take (((a0_2 ++ (([[(DV.v (Value.int IntKind.i64 (-1 : Int)))]]).take (1)))).length)), ()))), ((0 : Int), ()))))))))))))))))) (
                          cond ((a1_0 == (3 : Int))) (
                            needs ((((a0_0).length * 16) ≤ 140737488355328) ∧ (((a0_0).length * 2) ≤ 140737488355328)) (
                            needs (((0 : Int) ≤ (c21).1) ∧ ((c21).1 < (((a0_0).length : Nat) : Int))) (
                            optAll ((a0_0)[(0 + (Int.toNat (c21).1))]?) fun (r31 : List DV) =>
                            needs (2 ≤ (r31).length) (
                            c = ((((((a0_0).set ((0 + (Int.toNat (c21).1))) (putD r31 0 [(DV.v (Value.int IntKind.i64 a1_1)), (DV.v (Value.int IntKind.i64 a1_2))]))).take ((a0_0).length)), (a0_1, (a0_2, ()))), ((0 : Int), ())))))) (
                            cond ((a1_0 == (4 : Int))) (
                              needs (((0 : Int) ≤ (0 : Int)) ∧ (((0 : Int) ≤ (c20).1) ∧ ((c20).1 ≤ (((a0_0).length : Nat) : Int)))) (
                              needs ((((((a0_0).take ((Int.toNat (c20).1)))).length * 16) ≤ 140737488355328) ∧ (((((a0_0).take ((Int.toNat (c20).1)))).length * 2) ≤ 140737488355328)) (
                              needs (((0 : Int) ≤ (IntKind.i64.wrap ((c20).1 + (1 : Int)))) ∧ (((IntKind.i64.wrap ((c20).1 + (1 : Int))) ≤ (((a0_0).length : Nat) : Int)) ∧ ((((a0_0).length : Nat) : Int) ≤ (((a0_0).length : Nat) : Int)))) (
                              needs ((((a0_0).take ((Int.toNat (c20).1)))).length = (((a0_0).take ((Int.toNat (c20).1)))).length) (
                              needs (((((((a0_0).take ((Int.toNat (c20).1))) ++ ((((a0_0).take ((Int.toNat (((a0_0).length : Nat) : Int))))).drop ((Int.toNat (IntKind.i64.wrap ((c20).1 + (1 : Int)))))))).length * 16) ≤ 140737488355328) ∧ ((((((a0_0).take ((Int.toNat (c20).1))) ++ ((((a0_0).take ((Int.toNat (((a0_0).length : Nat) : Int))))).drop ((Int.toNat (IntKind.i64.wrap ((c20).1 + (1 : Int)))))))).length * 2) ≤ 140737488355328)) (
                              needs (((0 : Int) ≤ (0 : Int)) ∧ (((0 : Int) ≤ (c20).1) ∧ ((c20).1 ≤ (((a0_1).length : Nat) : Int)))) (
                              needs ((((((a0_1).take ((Int.toNat (c20).1)))).length * 8) ≤ 140737488355328) ∧ (((((a0_1).take ((Int.toNat (c20).1)))).length * 1) ≤ 140737488355328)) (
                              needs (((0 : Int) ≤ (IntKind.i64.wrap ((c20).1 + (1 : Int)))) ∧ (((IntKind.i64.wrap ((c20).1 + (1 : Int))) ≤ (((a0_1).length : Nat) : Int)) ∧ ((((a0_1).length : Nat) : Int) ≤ (((a0_1).length : Nat) : Int)))) (
                              needs ((((a0_1).take ((Int.toNat (c20).1)))).length = (((a0_1).take ((Int.toNat (c20).1)))).length) (
                              needs (((((((a0_1).take ((Int.toNat (c20).1))) ++ ((((a0_1).take ((Int.toNat (((a0_1).length : Nat) : Int))))).drop ((Int.toNat (IntKind.i64.wrap ((c20).1 + (1 : Int)))))))).length * 8) ≤ 140737488355328) ∧ ((((((a0_1).take ((Int.toNat (c20).1))) ++ ((((a0_1).take ((Int.toNat (((a0_1).length : Nat) : Int))))).drop ((Int.toNat (IntKind.i64.wrap ((c20).1 + (1 : Int)))))))).length * 1) ≤ 140737488355328)) (
                              c = (((((((a0_0).take ((Int.toNat (c20).1))) ++ ((((a0_0).take ((Int.toNat (((a0_0).length : Nat) : Int))))).drop ((Int.toNat (IntKind.i64.wrap ((c20).1 + (1 : Int)))))))).take (((((a0_0).take ((Int.toNat (c20).1))) ++ ((((a0_0).take ((Int.toNat (((a0_0).length : Nat) : Int))))).drop ((Int.toNat (IntKind.i64.wrap ((c20).1 + (1 : Int)))))))).length)), ((((((a0_1).take ((Int.toNat (c20).1))) ++ ((((a0_1).take ((Int.toNat (((a0_1).length : Nat) : Int))))).drop ((Int.toNat (IntKind.i64.wrap ((c20).1 + (1 : Int)))))))).take (((((a0_1).take ((Int.toNat (c20).1))) ++ ((((a0_1).take ((Int.toNat (((a0_1).length : Nat) : Int))))).drop ((Int.toNat (IntKind.i64.wrap ((c20).1 + (1 : Int)))))))).length)), (a0_2, ()))), ((0 : Int), ()))))))))))))) (
                              cond (decide (((((a0_2).length : Nat) : Int) ≥ (4096 : Int)))) (
                                c = ((a0_0, (a0_1, (a0_2, ()))), ((6 : Int), ()))) (
                                cond ((a1_0 == (2 : Int))) (
                                  needs ((0 : Int) ≤ (c21).1) (
                                  optAll ((a0_1)[(Int.toNat (c21).1)]?) fun (r32 : List DV) =>
                                  optAll ((dInt IntKind.i64 r32 0)) fun (z33 : Int) =>
                                  needs ((((a0_0).length * 16) ≤ 140737488355328) ∧ (((a0_0).length * 2) ≤ 140737488355328)) (
                                  needs ((a0_0).length = (a0_0).length) (
                                  needs (((((a0_0 ++ (([[(DV.v (Value.int IntKind.i64 a1_1)), (DV.v (Value.int IntKind.i64 a1_2))]]).take (1)))).length * 16) ≤ 140737488355328) ∧ ((((a0_0 ++ (([[(DV.v (Value.int IntKind.i64 a1_1)), (DV.v (Value.int IntKind.i64 a1_2))]]).take (1)))).length * 2) ≤ 140737488355328)) (
                                  needs ((((a0_1).length * 8) ≤ 140737488355328) ∧ (((a0_1).length * 1) ≤ 140737488355328)) (
                                  needs ((a0_1).length = (a0_1).length) (
                                  needs (((((a0_1 ++ (([[(DV.v (Value.int IntKind.i64 (((a0_2).length : Nat) : Int)))]]).take (1)))).length * 8) ≤ 140737488355328) ∧ ((((a0_1 ++ (([[(DV.v (Value.int IntKind.i64 (((a0_2).length : Nat) : Int)))]]).take (1)))).length * 1) ≤ 140737488355328)) (
                                  needs ((((a0_2).length * 8) ≤ 140737488355328) ∧ (((a0_2).length * 1) ≤ 140737488355328)) (
                                  needs ((a0_2).length = (a0_2).length) (
                                  needs (((((a0_2 ++ (([[(DV.v (Value.int IntKind.i64 z33))]]).take (1)))).length * 8) ≤ 140737488355328) ∧ ((((a0_2 ++ (([[(DV.v (Value.int IntKind.i64 z33))]]).take (1)))).length * 1) ≤ 140737488355328)) (
                                  c = (((((a0_0 ++ (([[(DV.v (Value.int IntKind.i64 a1_1)), (DV.v (Value.int IntKind.i64 a1_2))]]).take (1)))).take (((a0_0 ++ (([[(DV.v (Value.int IntKind.i64 a1_1)), (DV.v (Value.int IntKind.i64 a1_2))]]).take (1)))).length)), ((((a0_1 ++ (([[(DV.v (Value.int IntKind.i64 (((a0_2).length : Nat) : Int)))]]).take (1)))).take (((a0_1 ++ (([[(DV.v (Value.int IntKind.i64 (((a0_2).length : Nat) : Int)))]]).take (1)))).length)), ((((a0_2 ++ (([[(DV.v (Value.int IntKind.i64 z33))]]).take (1)))).take (((a0_2 ++ (([[(DV.v (Value.int IntKind.i64 z33))]]).take (1)))).length)), ()))), ((0 : Int), ()))))))))))))) (
                                  needs ((((a0_0).length * 16) ≤ 140737488355328) ∧ (((a0_0).length * 2) ≤ 140737488355328)) (
                                  needs ((a0_0).length = (a0_0).length) (
                                  needs (((((a0_0 ++ (([[(DV.v (Value.int IntKind.i64 a1_1)), (DV.v (Value.int IntKind.i64 a1_2))]]).take (1)))).length * 16) ≤ 140737488355328) ∧ ((((a0_0 ++ (([[(DV.v (Value.int IntKind.i64 a1_1)), (DV.v (Value.int IntKind.i64 a1_2))]]).take (1)))).length * 2) ≤ 140737488355328)) (
                                  needs ((((a0_1).length * 8) ≤ 140737488355328) ∧ (((a0_1).length * 1) ≤ 140737488355328)) (
                                  needs ((a0_1).length = (a0_1).length) (
                                  needs (((((a0_1 ++ (([[(DV.v (Value.int IntKind.i64 (((a0_2).length : Nat) : Int)))]]).take (1)))).length * 8) ≤ 140737488355328) ∧ ((((a0_1 ++ (([[(DV.v (Value.int IntKind.i64 (((a0_2).length : Nat) : Int)))]]).take (1)))).length * 1) ≤ 140737488355328)) (
                                  needs ((((a0_2).length * 8) ≤ 140737488355328) ∧ (((a0_2).length * 1) ≤ 140737488355328)) (
                                  needs ((a0_2).length = (a0_2).length) (
                                  needs (((((a0_2 ++ (([[(DV.v (Value.int IntKind.i64 (-1 : Int)))]]).take (1)))).length * 8) ≤ 140737488355328) ∧ ((((a0_2 ++ (([[(DV.v (Value.int IntKind.i64 (-1 : Int)))]]).take (1)))).length * 1) ≤ 140737488355328)) (
                                  c = (((((a0_0 ++ (([[(DV.v (Value.int IntKind.i64 a1_1)), (DV.v (Value.int IntKind.i64 a1_2))]]).take (1)))).take (((a0_0 ++ (([[(DV.v (Value.int IntKind.i64 a1_1)), (DV.v (Value.int IntKind.i64 a1_2))]]).take (1)))).length)), ((((a0_1 ++ (([[(DV.v (Value.int IntKind.i64 (((a0_2).length : Nat) : Int)))]]).take (1)))).take (((a0_1 ++ (([[(DV.v (Value.int IntKind.i64 (((a0_2).length : Nat) : Int)))]]).take (1)))).length)), ((((a0_2 ++ (([[(DV.v (Value.int IntKind.i64 (-1 : Int)))]]).take (1)))).take (((a0_2 ++ (([[(DV.v (Value.int IntKind.i64 (-1 : Int)))]]).take (1)))).length)), ()))), ((0 : Int), ()))))))))))))))))))) (
                    cond ((a1_0 == (4 : Int))) (
                      cond (decide (((c20).1 < (0 : Int)))) (
                        c = ((a0_0, (a0_1, (a0_2, ()))), ((7 : Int), ()))) (
                        cond ((a1_0 != (4 : Int))) (
                          cond (decide (((c20).1 ≥ (0 : Int)))) (
                            c = ((a0_0, (a0_1, (a0_2, ()))), ((8 : Int), ()))) (
                            cond ((a1_0 == (3 : Int))) (
                              needs ((((a0_0).length * 16) ≤ 140737488355328) ∧ (((a0_0).length * 2) ≤ 140737488355328)) (
                              needs (((0 : Int) ≤ (c21).1) ∧ ((c21).1 < (((a0_0).length : Nat) : Int))) (
                              optAll ((a0_0)[(0 + (Int.toNat (c21).1))]?) fun (r34 : List DV) =>
                              needs (2 ≤ (r34).length) (
                              c = ((((((a0_0).set ((0 + (Int.toNat (c21).1))) (putD r34 0 [(DV.v (Value.int IntKind.i64 a1_1)), (DV.v (Value.int IntKind.i64 a1_2))]))).take ((a0_0).length)), (a0_1, (a0_2, ()))), ((0 : Int), ())))))) (
                              cond ((a1_0 == (4 : Int))) (
                                needs (((0 : Int) ≤ (0 : Int)) ∧ (((0 : Int) ≤ (c20).1) ∧ ((c20).1 ≤ (((a0_0).length : Nat) : Int)))) (
                                needs ((((((a0_0).take ((Int.toNat (c20).1)))).length * 16) ≤ 140737488355328) ∧ (((((a0_0).take ((Int.toNat (c20).1)))).length * 2) ≤ 140737488355328)) (
                                needs (((0 : Int) ≤ (IntKind.i64.wrap ((c20).1 + (1 : Int)))) ∧ (((IntKind.i64.wrap ((c20).1 + (1 : Int))) ≤ (((a0_0).length : Nat) : Int)) ∧ ((((a0_0).length : Nat) : Int) ≤ (((a0_0).length : Nat) : Int)))) (
                                needs ((((a0_0).take ((Int.toNat (c20).1)))).length = (((a0_0).take ((Int.toNat (c20).1)))).length) (
                                needs (((((((a0_0).take ((Int.toNat (c20).1))) ++ ((((a0_0).take ((Int.toNat (((a0_0).length : Nat) : Int))))).drop ((Int.toNat (IntKind.i64.wrap ((c20).1 + (1 : Int)))))))).length * 16) ≤ 140737488355328) ∧ ((((((a0_0).take ((Int.toNat (c20).1))) ++ ((((a0_0).take ((Int.toNat (((a0_0).length : Nat) : Int))))).drop ((Int.toNat (IntKind.i64.wrap ((c20).1 + (1 : Int)))))))).length * 2) ≤ 140737488355328)) (
                                needs (((0 : Int) ≤ (0 : Int)) ∧ (((0 : Int) ≤ (c20).1) ∧ ((c20).1 ≤ (((a0_1).length : Nat) : Int)))) (
                                needs ((((((a0_1).take ((Int.toNat (c20).1)))).length * 8) ≤ 140737488355328) ∧ (((((a0_1).take ((Int.toNat (c20).1)))).length * 1) ≤ 140737488355328)) (
                                needs (((0 : Int) ≤ (IntKind.i64.wrap ((c20).1 + (1 : Int)))) ∧ (((IntKind.i64.wrap ((c20).1 + (1 : Int))) ≤ (((a0_1).length : Nat) : Int)) ∧ ((((a0_1).length : Nat) : Int) ≤ (((a0_1).length : Nat) : Int)))) (
                                needs ((((a0_1).take ((Int.toNat (c20).1)))).length = (((a0_1).take ((Int.toNat (c20).1)))).length) (
                                needs (((((((a0_1).take ((Int.toNat (c20).1))) ++ ((((a0_1).take ((Int.toNat (((a0_1).length : Nat) : Int))))).drop ((Int.toNat (IntKind.i64.wrap ((c20).1 + (1 : Int)))))))).length * 8) ≤ 140737488355328) ∧ ((((((a0_1).take ((Int.toNat (c20).1))) ++ ((((a0_1).take ((Int.toNat (((a0_1).length : Nat) : Int))))).drop ((Int.toNat (IntKind.i64.wrap ((c20).1 + (1 : Int)))))))).length * 1) ≤ 140737488355328)) (
                                c = (((((((a0_0).take ((Int.toNat (c20).1))) ++ ((((a0_0).take ((Int.toNat (((a0_0).length : Nat) : Int))))).drop ((Int.toNat (IntKind.i64.wrap ((c20).1 + (1 : Int)))))))).take (((((a0_0).take ((Int.toNat (c20).1))) ++ ((((a0_0).take ((Int.toNat (((a0_0).length : Nat) : Int))))).drop ((Int.toNat (IntKind.i64.wrap ((c20).1 + (1 : Int)))))))).length)), ((((((a0_1).take ((Int.toNat (c20).1))) ++ ((((a0_1).take ((Int.toNat (((a0_1).length : Nat) : Int))))).drop ((Int.toNat (IntKind.i64.wrap ((c20).1 + (1 : Int)))))))).take (((((a0_1).take ((Int.toNat (c20).1))) ++ ((((a0_1).take ((Int.toNat (((a0_1).length : Nat) : Int))))).drop ((Int.toNat (IntKind.i64.wrap ((c20).1 + (1 : Int)))))))).length)), (a0_2, ()))), ((0 : Int), ()))))))))))))) (
                                cond (decide (((((a0_2).length : Nat) : Int) ≥ (4096 : Int)))) (
                                  c = ((a0_0, (a0_1, (a0_2, ()))), ((6 : Int), ()))) (
                                  cond ((a1_0 == (2 : Int))) (
                                    needs ((0 : Int) ≤ (c21).1) (
                                    optAll ((a0_1)[(Int.toNat (c21).1)]?) fun (r35 : List DV) =>
                                    optAll ((dInt IntKind.i64 r35 0)) fun (z36 : Int) =>
                                    needs ((((a0_0).length * 16) ≤ 140737488355328) ∧ (((a0_0).length * 2) ≤ 140737488355328)) (
                                    needs ((a0_0).length = (a0_0).length) (
                                    needs (((((a0_0 ++ (([[(DV.v (Value.int IntKind.i64 a1_1)), (DV.v (Value.int IntKind.i64 a1_2))]]).take (1)))).length * 16) ≤ 140737488355328) ∧ ((((a0_0 ++ (([[(DV.v (Value.int IntKind.i64 a1_1)), (DV.v (Value.int IntKind.i64 a1_2))]]).take (1)))).length * 2) ≤ 140737488355328)) (
                                    needs ((((a0_1).length * 8) ≤ 140737488355328) ∧ (((a0_1).length * 1) ≤ 140737488355328)) (
                                    needs ((a0_1).length = (a0_1).length) (
                                    needs (((((a0_1 ++ (([[(DV.v (Value.int IntKind.i64 (((a0_2).length : Nat) : Int)))]]).take (1)))).length * 8) ≤ 140737488355328) ∧ ((((a0_1 ++ (([[(DV.v (Value.int IntKind.i64 (((a0_2).length : Nat) : Int)))]]).take (1)))).length * 1) ≤ 140737488355328)) (
                                    needs ((((a0_2).length * 8) ≤ 140737488355328) ∧ (((a0_2).length * 1) ≤ 140737488355328)) (
                                    needs ((a0_2).length = (a0_2).length) (
                                    needs (((((a0_2 ++ (([[(DV.v (Value.int IntKind.i64 z36))]]).take (1)))).length * 8) ≤ 140737488355328) ∧ ((((a0_2 ++ (([[(DV.v (Value.int IntKind.i64 z36))]]).take (1)))).length * 1) ≤ 140737488355328)) (
                                    c = (((((a0_0 ++ (([[(DV.v (Value.int IntKind.i64 a1_1)), (DV.v (Value.int IntKind.i64 a1_2))]]).take (1)))).take (((a0_0 ++ (([[(DV.v (Value.int IntKind.i64 a1_1)), (DV.v (Value.int IntKind.i64 a1_2))]]).take (1)))).length)), ((((a0_1 ++ (([[(DV.v (Value.int IntKind.i64 (((a0_2).length : Nat) : Int)))]]).take (1)))).take (((a0_1 ++ (([[(DV.v (Value.int IntKind.i64 (((a0_2).length : Nat) : Int)))]]).take (1)))).length)), ((((a0_2 ++ (([[(DV.v (Value.int IntKind.i64 z36))]]).take (1)))).take (((a0_2 ++ (([[(DV.v (Value.int IntKind.i64 z36))]]).take (1)))).length)), ()))), ((0 : Int), ()))))))))))))) (
                                    needs ((((a0_0).length * 16) ≤ 140737488355328) ∧ (((a0_0).length * 2) ≤ 140737488355328)) (
                                    needs ((a0_0).length = (a0_0).length) (
                                    needs (((((a0_0 ++ (([[(DV.v (Value.int IntKind.i64 a1_1)), (DV.v (Value.int IntKind.i64 a1_2))]]).take (1)))).length * 16) ≤ 140737488355328) ∧ ((((a0_0 ++ (([[(DV.v (Value.int IntKind.i64 a1_1)), (DV.v (Value.int IntKind.i64 a1_2))]]).take (1)))).length * 2) ≤ 140737488355328)) (
                                    needs ((((a0_1).length * 8) ≤ 140737488355328) ∧ (((a0_1).length * 1) ≤ 140737488355328)) (
                                    needs ((a0_1).length = (a0_1).length) (
                                    needs (((((a0_1 ++ (([[(DV.v (Value.int IntKind.i64 (((a0_2).length : Nat) : Int)))]]).take (1)))).length * 8) ≤ 140737488355328) ∧ ((((a0_1 ++ (([[(DV.v (Value.int IntKind.i64 (((a0_2).length : Nat) : Int)))]]).take (1)))).length * 1) ≤ 140737488355328)) (
                                    needs ((((a0_2).length * 8) ≤ 140737488355328) ∧ (((a0_2).length * 1) ≤ 140737488355328)) (
                                    needs ((a0_2).length = (a0_2).length) (
                                    needs (((((a0_2 ++ (([[(DV.v (Value.int IntKind.i64 (-1 : Int)))]]).take (1)))).length * 8) ≤ 140737488355328) ∧ ((((a0_2 ++ (([[(DV.v (Value.int IntKind.i64 (-1 : Int)))]]).take (1)))).length * 1) ≤ 140737488355328)) (
                                    c = (((((a0_0 ++ (([[(DV.v (Value.int IntKind.i64 a1_1)), (DV.v (Value.int IntKind.i64 a1_2))]]).take (1)))).take (((a0_0 ++ (([[(DV.v (Value.int IntKind.i64 a1_1)), (DV.v (Value.int IntKind.i64 a1_2))]]).take (1)))).length)), ((((a0_1 ++ (([[(DV.v (Value.int IntKind.i64 (((a0_2).length : Nat) : Int)))]]).take (1)))).take (((a0_1 ++ (([[(DV.v (Value.int IntKind.i64 (((a0_2).length : Nat) : Int)))]]).take (1)))).length)), ((((a0_2 ++ (([[(DV.v (Value.int IntKind.i64 (-1 : Int)))]]).take (1)))).take (((a0_2 ++ (([[(DV.v (Value.int IntKind.i64 (-1 : Int)))]]).take (1)))).length)), ()))), ((0 : Int), ()))))))))))))))))) (
                          cond ((a1_0 == (3 : Int))) (
                            needs ((((a0_0).length * 16) ≤ 140737488355328) ∧ (((a0_0).length * 2) ≤ 140737488355328)) (
                            needs (((0 : Int) ≤ (c21).1) ∧ ((c21).1 < (((a0_0).length : Nat) : Int))) (
                            optAll ((a0_0)[(0 + (Int.toNat (c21).1))]?) fun (r37 : List DV) =>
                            needs (2 ≤ (r37).length) (
                            c = ((((((a0_0).set ((0 + (Int.toNat (c21).1))) (putD r37 0 [(DV.v (Value.int IntKind.i64 a1_1)), (DV.v (Value.int IntKind.i64 a1_2))]))).take ((a0_0).length)), (a0_1, (a0_2, ()))), ((0 : Int), ())))))) (
                            cond ((a1_0 == (4 : Int))) (
                              needs (((0 : Int) ≤ (0 : Int)) ∧ (((0 : Int) ≤ (c20).1) ∧ ((c20).1 ≤ (((a0_0).length : Nat) : Int)))) (
                              needs ((((((a0_0).take ((Int.toNat (c20).1)))).length * 16) ≤ 140737488355328) ∧ (((((a0_0).take ((Int.toNat (c20).1)))).length * 2) ≤ 140737488355328)) (
                              needs (((0 : Int) ≤ (IntKind.i64.wrap ((c20).1 + (1 : Int)))) ∧ (((IntKind.i64.wrap ((c20).1 + (1 : Int))) ≤ (((a0_0).length : Nat) : Int)) ∧ ((((a0_0).length : Nat) : Int) ≤ (((a0_0).length : Nat) : Int)))) (
                              needs ((((a0_0).take ((Int.toNat (c20).1)))).length = (((a0_0).take ((Int.toNat (c20).1)))).length) (
                              needs (((((((a0_0).take ((Int.toNat (c20).1))) ++ ((((a0_0).take ((Int.toNat (((a0_0).length : Nat) : Int))))).drop ((Int.toNat (IntKind.i64.wrap ((c20).1 + (1 : Int)))))))).length * 16) ≤ 140737488355328) ∧ ((((((a0_0).take ((Int.toNat (c20).1))) ++ ((((a0_0).take ((Int.toNat (((a0_0).length : Nat) : Int))))).drop ((Int.toNat (IntKind.i64.wrap ((c20).1 + (1 : Int)))))))).length * 2) ≤ 140737488355328)) (
                              needs (((0 : Int) ≤ (0 : Int)) ∧ (((0 : Int) ≤ (c20).1) ∧ ((c20).1 ≤ (((a0_1).length : Nat) : Int)))) (
                              needs ((((((a0_1).take ((Int.toNat (c20).1)))).length * 8) ≤ 140737488355328) ∧ (((((a0_1).take ((Int.toNat (c20).1)))).length * 1) ≤ 140737488355328)) (
                              needs (((0 : Int) ≤ (IntKind.i64.wrap ((c20).1 + (1 : Int)))) ∧ (((IntKind.i64.wrap ((c20).1 + (1 : Int))) ≤ (((a0_1).length : Nat) : Int)) ∧ ((((a0_1).length : Nat) : Int) ≤ (((a0_1).length : Nat) : Int)))) (
                              needs ((((a0_1).take ((Int.toNat (c20).1)))).length = (((a0_1).take ((Int.toNat (c20).1)))).length) (
                              needs (((((((a0_1).take ((Int.toNat (c20).1))) ++ ((((a0_1).take ((Int.toNat (((a0_1).length : Nat) : Int))))).drop ((Int.toNat (IntKind.i64.wrap ((c20).1 + (1 : Int)))))))).length * 8) ≤ 140737488355328) ∧ ((((((a0_1).take ((Int.toNat (c20).1))) ++ ((((a0_1).take ((Int.toNat (((a0_1).length : Nat) : Int))))).drop ((Int.toNat (IntKind.i64.wrap ((c20).1 + (1 : Int)))))))).length * 1) ≤ 140737488355328)) (
                              c = (((((((a0_0).take ((Int.toNat (c20).1))) ++ ((((a0_0).take ((Int.toNat (((a0_0).length : Nat) : Int))))).drop ((Int.toNat (IntKind.i64.wrap ((c20).1 + (1 : Int)))))))).take (((((a0_0).take ((Int.toNat (c20).1))) ++ ((((a0_0).take ((Int.toNat (((a0_0).length : Nat) : Int))))).drop ((Int.toNat (IntKind.i64.wrap ((c20).1 + (1 : Int)))))))).length)), ((((((a0_1).take ((Int.toNat (c20).1))) ++ ((((a0_1).take ((Int.toNat (((a0_1).length : Nat) : Int))))).drop ((Int.toNat (IntKind.i64.wrap ((c20).1 + (1 : Int)))))))).take (((((a0_1).take ((Int.toNat (c20).1))) ++ ((((a0_1).take ((Int.toNat (((a0_1).length : Nat) : Int))))).drop ((Int.toNat (IntKind.i64.wrap ((c20).1 + (1 : Int)))))))).length)), (a0_2, ()))), ((0 : Int), ()))))))))))))) (
                              cond (decide (((((a0_2).length : Nat) : Int) ≥ (4096 : Int)))) (
                                c = ((a0_0, (a0_1, (a0_2, ()))), ((6 : Int), ()))) (
                                cond ((a1_0 == (2 : Int))) (
                                  needs ((0 : Int) ≤ (c21).1) (
                                  optAll ((a0_1)[(Int.toNat (c21).1)]?) fun (r38 : List DV) =>
                                  optAll ((dInt IntKind.i64 r38 0)) fun (z39 : Int) =>
                                  needs ((((a0_0).length * 16) ≤ 140737488355328) ∧ (((a0_0).length * 2) ≤ 140737488355328)) (
                                  needs ((a0_0).length = (a0_0).length) (
                                  needs (((((a0_0 ++ (([[(DV.v (Value.int IntKind.i64 a1_1)), (DV.v (Value.int IntKind.i64 a1_2))]]).take (1)))).length * 16) ≤ 140737488355328) ∧ ((((a0_0 ++ (([[(DV.v (Value.int IntKind.i64 a1_1)), (DV.v (Value.int IntKind.i64 a1_2))]]).take (1)))).length * 2) ≤ 140737488355328)) (
                                  needs ((((a0_1).length * 8) ≤ 140737488355328) ∧ (((a0_1).length * 1) ≤ 140737488355328)) (
                                  needs ((a0_1).length = (a0_1).length) (
                                  needs (((((a0_1 ++ (([[(DV.v (Value.int IntKind.i64 (((a0_2).length : Nat) : Int)))]]).take (1)))).length * 8) ≤ 140737488355328) ∧ ((((a0_1 ++ (([[(DV.v (Value.int IntKind.i64 (((a0_2).length : Nat) : Int)))]]).take (1)))).length * 1) ≤ 140737488355328)) (
                                  needs ((((a0_2).length * 8) ≤ 140737488355328) ∧ (((a0_2).length * 1) ≤ 140737488355328)) (
                                  needs ((a0_2).length = (a0_2).length) (
                                  needs (((((a0_2 ++ (([[(DV.v (Value.int IntKind.i64 z39))]]).take (1)))).length * 8) ≤ 140737488355328) ∧ ((((a0_2 ++ (([[(DV.v (Value.int IntKind.i64 z39))]]).take (1)))).length * 1) ≤ 140737488355328)) (
                                  c = (((((a0_0 ++ (([[(DV.v (Value.int IntKind.i64 a1_1)), (DV.v (Value.int IntKind.i64 a1_2))]]).take (1)))).take (((a0_0 ++ (([[(DV.v (Value.int IntKind.i64 a1_1)), (DV.v (Value.int IntKind.i64 a1_2))]]).take (1)))).length)), ((((a0_1 ++ (([[(DV.v (Value.int IntKind.i64 (((a0_2).length : Nat) : Int)))]]).take (1)))).take (((a0_1 ++ (([[(DV.v (Value.int IntKind.i64 (((a0_2).length : Nat) : Int)))]]).take (1)))).length)), ((((a0_2 ++ (([[(DV.v (Value.int IntKind.i64 z39))]]).take (1)))).take (((a0_2 ++ (([[(DV.v (Value.int IntKind.i64 z39))]]).take (1)))).length)), ()))), ((0 : Int), ()))))))))))))) (
                                  needs ((((a0_0).length * 16) ≤ 140737488355328) ∧ (((a0_0).length * 2) ≤ 140737488355328)) (
                                  needs ((a0_0).length = (a0_0).length) (
                                  needs (((((a0_0 ++ (([[(DV.v (Value.int IntKind.i64 a1_1)), (DV.v (Value.int IntKind.i64 a1_2))]]).take (1)))).length * 16) ≤ 140737488355328) ∧ ((((a0_0 ++ (([[(DV.v (Value.int IntKind.i64 a1_1)), (DV.v (Value.int IntKind.i64 a1_2))]]).take (1)))).length * 2) ≤ 140737488355328)) (
                                  needs ((((a0_1).length * 8) ≤ 140737488355328) ∧ (((a0_1).length * 1) ≤ 140737488355328)) (
                                  needs ((a0_1).length = (a0_1).length) (
                                  needs (((((a0_1 ++ (([[(DV.v (Value.int IntKind.i64 (((a0_2).length : Nat) : Int)))]]).take (1)))).length * 8) ≤ 140737488355328) ∧ ((((a0_1 ++ (([[(DV.v (Value.int IntKind.i64 (((a0_2).length : Nat) : Int)))]]).take (1)))).length * 1) ≤ 140737488355328)) (
                                  needs ((((a0_2).length * 8) ≤ 140737488355328) ∧ (((a0_2).length * 1) ≤ 140737488355328)) (
                                  needs ((a0_2).length = (a0_2).length) (
                                  needs (((((a0_2 ++ (([[(DV.v (Value.int IntKind.i64 (-1 : Int)))]]).take (1)))).length * 8) ≤ 140737488355328) ∧ ((((a0_2 ++ (([[(DV.v (Value.int IntKind.i64 (-1 : Int)))]]).take (1)))).length * 1) ≤ 140737488355328)) (
                                  c = (((((a0_0 ++ (([[(DV.v (Value.int IntKind.i64 a1_1)), (DV.v (Value.int IntKind.i64 a1_2))]]).take (1)))).take (((a0_0 ++ (([[(DV.v (Value.int IntKind.i64 a1_1)), (DV.v (Value.int IntKind.i64 a1_2))]]).take (1)))).length)), ((((a0_1 ++ (([[(DV.v (Value.int IntKind.i64 (((a0_2).length : Nat) : Int)))]]).take (1)))).take (((a0_1 ++ (([[(DV.v (Value.int IntKind.i64 (((a0_2).length : Nat) : Int)))]]).take (1)))).length)), ((((a0_2 ++ (([[(DV.v (Value.int IntKind.i64 (-1 : Int)))]]).take (1)))).take (((a0_2 ++ (([[(DV.v (Value.int IntKind.i64 (-1 : Int)))]]).take (1)))).length)), ()))), ((0 : Int), ())))))))))))))))))) (
                      cond ((a1_0 != (4 : Int))) (
                        cond (decide (((c20).1 ≥ (0 : Int)))) (
                          c = ((a0_0, (a0_1, (a0_2, ()))), ((8 : Int), ()))) (
                          cond ((a1_0 == (3 : Int))) (
                            needs ((((a0_0).length * 16) ≤ 140737488355328) ∧ (((a0_0).length * 2) ≤ 140737488355328)) (
                            needs (((0 : Int) ≤ (c21).1) ∧ ((c21).1 < (((a0_0).length : Nat) : Int))) (
                            optAll ((a0_0)[(0 + (Int.toNat (c21).1))]?) fun (r40 : List DV) =>
                            needs (2 ≤ (r40).length) (
                            c = ((((((a0_0).set ((0 + (Int.toNat (c21).1))) (putD r40 0 [(DV.v (Value.int IntKind.i64 a1_1)), (DV.v (Value.int IntKind.i64 a1_2))]))).take ((a0_0).length)), (a0_1, (a0_2, ()))), ((0 : Int), ())))))) (
                            cond ((a1_0 == (4 : Int))) (
                              needs (((0 : Int) ≤ (0 : Int)) ∧ (((0 : Int) ≤ (c20).1) ∧ ((c20).1 ≤ (((a0_0).length : Nat) : Int)))) (
                              needs ((((((a0_0).take ((Int.toNat (c20).1)))).length * 16) ≤ 140737488355328) ∧ (((((a0_0).take ((Int.toNat (c20).1)))).length * 2) ≤ 140737488355328)) (
                              needs (((0 : Int) ≤ (IntKind.i64.wrap ((c20).1 + (1 : Int)))) ∧ (((IntKind.i64.wrap ((c20).1 + (1 : Int))) ≤ (((a0_0).length : Nat) : Int)) ∧ ((((a0_0).length : Nat) : Int) ≤ (((a0_0).length : Nat) : Int)))) (
                              needs ((((a0_0).take ((Int.toNat (c20).1)))).length = (((a0_0).take ((Int.toNat (c20).1)))).length) (
                              needs (((((((a0_0).take ((Int.toNat (c20).1))) ++ ((((a0_0).take ((Int.toNat (((a0_0).length : Nat) : Int))))).drop ((Int.toNat (IntKind.i64.wrap ((c20).1 + (1 : Int)))))))).length * 16) ≤ 140737488355328) ∧ ((((((a0_0).take ((Int.toNat (c20).1))) ++ ((((a0_0).take ((Int.toNat (((a0_0).length : Nat) : Int))))).drop ((Int.toNat (IntKind.i64.wrap ((c20).1 + (1 : Int)))))))).length * 2) ≤ 140737488355328)) (
                              needs (((0 : Int) ≤ (0 : Int)) ∧ (((0 : Int) ≤ (c20).1) ∧ ((c20).1 ≤ (((a0_1).length : Nat) : Int)))) (
                              needs ((((((a0_1).take ((Int.toNat (c20).1)))).length * 8) ≤ 140737488355328) ∧ (((((a0_1).take ((Int.toNat (c20).1)))).length * 1) ≤ 140737488355328)) (
                              needs (((0 : Int) ≤ (IntKind.i64.wrap ((c20).1 + (1 : Int)))) ∧ (((IntKind.i64.wrap ((c20).1 + (1 : Int))) ≤ (((a0_1).length : Nat) : Int)) ∧ ((((a0_1).length : Nat) : Int) ≤ (((a0_1).length : Nat) : Int)))) (
                              needs ((((a0_1).take ((Int.toNat (c20).1)))).length = (((a0_1).take ((Int.toNat (c20).1)))).length) (
                              needs (((((((a0_1).take ((Int.toNat (c20).1))) ++ ((((a0_1).take ((Int.toNat (((a0_1).length : Nat) : Int))))).drop ((Int.toNat (IntKind.i64.wrap ((c20).1 + (1 : Int)))))))).length * 8) ≤ 140737488355328) ∧ ((((((a0_1).take ((Int.toNat (c20).1))) ++ ((((a0_1).take ((Int.toNat (((a0_1).length : Nat) : Int))))).drop ((Int.toNat (IntKind.i64.wrap ((c20).1 + (1 : Int)))))))).length * 1) ≤ 140737488355328)) (
                              c = (((((((a0_0).take ((Int.toNat (c20).1))) ++ ((((a0_0).take ((Int.toNat (((a0_0).length : Nat) : Int))))).drop ((Int.toNat (IntKind.i64.wrap ((c20).1 + (1 : Int)))))))).take (((((a0_0).take ((Int.toNat (c20).1))) ++ ((((a0_0).take ((Int.toNat (((a0_0).length : Nat) : Int))))).drop ((Int.toNat (IntKind.i64.wrap ((c20).1 + (1 : Int)))))))).length)), ((((((a0_1).take ((Int.toNat (c20).1))) ++ ((((a0_1).take ((Int.toNat (((a0_1).length : Nat) : Int))))).drop ((Int.toNat (IntKind.i64.wrap ((c20).1 + (1 : Int)))))))).take (((((a0_1).take ((Int.toNat (c20).1))) ++ ((((a0_1).take ((Int.toNat (((a0_1).length : Nat) : Int))))).drop ((Int.toNat (IntKind.i64.wrap ((c20).1 + (1 : Int)))))))).length)), (a0_2, ()))), ((0 : Int), ()))))))))))))) (
                              cond (decide (((((a0_2).length : Nat) : Int) ≥ (4096 : Int)))) (
                                c = ((a0_0, (a0_1, (a0_2, ()))), ((6 : Int), ()))) (
                                cond ((a1_0 == (2 : Int))) (
                                  needs ((0 : Int) ≤ (c21).1) (
                                  optAll ((a0_1)[(Int.toNat (c21).1)]?) fun (r41 : List DV) =>
                                  optAll ((dInt IntKind.i64 r41 0)) fun (z42 : Int) =>
                                  needs ((((a0_0).length * 16) ≤ 140737488355328) ∧ (((a0_0).length * 2) ≤ 140737488355328)) (
                                  needs ((a0_0).length = (a0_0).length) (
                                  needs (((((a0_0 ++ (([[(DV.v (Value.int IntKind.i64 a1_1)), (DV.v (Value.int IntKind.i64 a1_2))]]).take (1)))).length * 16) ≤ 140737488355328) ∧ ((((a0_0 ++ (([[(DV.v (Value.int IntKind.i64 a1_1)), (DV.v (Value.int IntKind.i64 a1_2))]]).take (1)))).length * 2) ≤ 140737488355328)) (
                                  needs ((((a0_1).length * 8) ≤ 140737488355328) ∧ (((a0_1).length * 1) ≤ 140737488355328)) (
                                  needs ((a0_1).length = (a0_1).length) (
                                  needs (((((a0_1 ++ (([[(DV.v (Value.int IntKind.i64 (((a0_2).length : Nat) : Int)))]]).take (1)))).length * 8) ≤ 140737488355328) ∧ ((((a0_1 ++ (([[(DV.v (Value.int IntKind.i64 (((a0_2).length : Nat) : Int)))]]).take (1)))).length * 1) ≤ 140737488355328)) (
                                  needs ((((a0_2).length * 8) ≤ 140737488355328) ∧ (((a0_2).length * 1) ≤ 140737488355328)) (
                                  needs ((a0_2).length = (a0_2).length) (
                                  needs (((((a0_2 ++ (([[(DV.v (Value.int IntKind.i64 z42))]]).take (1)))).length * 8) ≤ 140737488355328) ∧ ((((a0_2 ++ (([[(DV.v (Value.int IntKind.i64 z42))]]).take (1)))).length * 1) ≤ 140737488355328)) (
                                  c = (((((a0_0 ++ (([[(DV.v (Value.int IntKind.i64 a1_1)), (DV.v (Value.int IntKind.i64 a1_2))]]).take (1)))).take (((a0_0 ++ (([[(DV.v (Value.int IntKind.i64 a1_1)), (DV.v (Value.int IntKind.i64 a1_2))]]).take (1)))).length)), ((((a0_1 ++ (([[(DV.v (Value.int IntKind.i64 (((a0_2).length : Nat) : Int)))]]).take (1)))).take (((a0_1 ++ (([[(DV.v (Value.int IntKind.i64 (((a0_2).length : Nat) : Int)))]]).take (1)))).length)), ((((a0_2 ++ (([[(DV.v (Value.int IntKind.i64 z42))]]).take (1)))).take (((a0_2 ++ (([[(DV.v (Value.int IntKind.i64 z42))]]).take (1)))).length)), ()))), ((0 : Int), ()))))))))))))) (
                                  needs ((((a0_0).length * 16) ≤ 140737488355328) ∧ (((a0_0).length * 2) ≤ 140737488355328)) (
                                  needs ((a0_0).length = (a0_0).length) (
                                  needs (((((a0_0 ++ (([[(DV.v (Value.int IntKind.i64 a1_1)), (DV.v (Value.int IntKind.i64 a1_2))]]).take (1)))).length * 16) ≤ 140737488355328) ∧ ((((a0_0 ++ (([[(DV.v (Value.int IntKind.i64 a1_1)), (DV.v (Value.int IntKind.i64 a1_2))]]).take (1)))).length * 2) ≤ 140737488355328)) (
                                  needs ((((a0_1).length * 8) ≤ 140737488355328) ∧ (((a0_1).length * 1) ≤ 140737488355328)) (
                                  needs ((a0_1).length = (a0_1).length) (
                                  needs (((((a0_1 ++ (([[(DV.v (Value.int IntKind.i64 (((a0_2).length : Nat) : Int)))]]).take (1)))).length * 8) ≤ 140737488355328) ∧ ((((a0_1 ++ (([[(DV.v (Value.int IntKind.i64 (((a0_2).length : Nat) : Int)))]]).take (1)))).length * 1) ≤ 140737488355328)) (
                                  needs ((((a0_2).length * 8) ≤ 140737488355328) ∧ (((a0_2).length * 1) ≤ 140737488355328)) (
                                  needs ((a0_2).length = (a0_2).length) (
                                  needs (((((a0_2 ++ (([[(DV.v (Value.int IntKind.i64 (-1 : Int)))]]).take (1)))).length * 8) ≤ 140737488355328) ∧ ((((a0_2 ++ (([[(DV.v (Value.int IntKind.i64 (-1 : Int)))]]).take (1)))).length * 1) ≤ 140737488355328)) (
                                  c = (((((a0_0 ++ (([[(DV.v (Value.int IntKind.i64 a1_1)), (DV.v (Value.int IntKind.i64 a1_2))]]).take (1)))).take (((a0_0 ++ (([[(DV.v (Value.int IntKind.i64 a1_1)), (DV.v (Value.int IntKind.i64 a1_2))]]).take (1)))).length)), ((((a0_1 ++ (([[(DV.v (Value.int IntKind.i64 (((a0_2).length : Nat) : Int)))]]).take (1)))).take (((a0_1 ++ (([[(DV.v (Value.int IntKind.i64 (((a0_2).length : Nat) : Int)))]]).take (1)))).length)), ((((a0_2 ++ (([[(DV.v (Value.int IntKind.i64 (-1 : Int)))]]).take (1)))).take (((a0_2 ++ (([[(DV.v (Value.int IntKind.i64 (-1 : Int)))]]).take (1)))).length)), ()))), ((0 : Int), ()))))))))))))))))) (
                        cond ((a1_0 == (3 : Int))) (
                          needs ((((a0_0).length * 16) ≤ 140737488355328) ∧ (((a0_0).length * 2) ≤ 140737488355328)) (
                          needs (((0 : Int) ≤ (c21).1) ∧ ((c21).1 < (((a0_0).length : Nat) : Int))) (
                          optAll ((a0_0)[(0 + (Int.toNat (c21).1))]?) fun (r43 : List DV) =>
                          needs (2 ≤ (r43).length) (
                          c = ((((((a0_0).set ((0 + (Int.toNat (c21).1))) (putD r43 0 [(DV.v (Value.int IntKind.i64 a1_1)), (DV.v (Value.int IntKind.i64 a1_2))]))).take ((a0_0).length)), (a0_1, (a0_2, ()))), ((0 : Int), ())))))) (
                          cond ((a1_0 == (4 : Int))) (
                            needs (((0 : Int) ≤ (0 : Int)) ∧ (((0 : Int) ≤ (c20).1) ∧ ((c20).1 ≤ (((a0_0).length : Nat) : Int)))) (
                            needs ((((((a0_0).take ((Int.toNat (c20).1)))).length * 16) ≤ 140737488355328) ∧ (((((a0_0).take ((Int.toNat (c20).1)))).length * 2) ≤ 140737488355328)) (
                            needs (((0 : Int) ≤ (IntKind.i64.wrap ((c20).1 + (1 : Int)))) ∧ (((IntKind.i64.wrap ((c20).1 + (1 : Int))) ≤ (((a0_0).length : Nat) : Int)) ∧ ((((a0_0).length : Nat) : Int) ≤ (((a0_0).length : Nat) : Int)))) (
                            needs ((((a0_0).take ((Int.toNat (c20).1)))).length = (((a0_0).take ((Int.toNat (c20).1)))).length) (
                            needs (((((((a0_0).take ((Int.toNat (c20).1))) ++ ((((a0_0).take ((Int.toNat (((a0_0).length : Nat) : Int))))).drop ((Int.toNat (IntKind.i64.wrap ((c20).1 + (1 : Int)))))))).length * 16) ≤ 140737488355328) ∧ ((((((a0_0).take ((Int.toNat (c20).1))) ++ ((((a0_0).take ((Int.toNat (((a0_0).length : Nat) : Int))))).drop ((Int.toNat (IntKind.i64.wrap ((c20).1 + (1 : Int)))))))).length * 2) ≤ 140737488355328)) (
                            needs (((0 : Int) ≤ (0 : Int)) ∧ (((0 : Int) ≤ (c20).1) ∧ ((c20).1 ≤ (((a0_1).length : Nat) : Int)))) (
                            needs ((((((a0_1).take ((Int.toNat (c20).1)))).length * 8) ≤ 140737488355328) ∧ (((((a0_1).take ((Int.toNat (c20).1)))).length * 1) ≤ 140737488355328)) (
                            needs (((0 : Int) ≤ (IntKind.i64.wrap ((c20).1 + (1 : Int)))) ∧ (((IntKind.i64.wrap ((c20).1 + (1 : Int))) ≤ (((a0_1).length : Nat) : Int)) ∧ ((((a0_1).length : Nat) : Int) ≤ (((a0_1).length : Nat) : Int)))) (
                            needs ((((a0_1).take ((Int.toNat (c20).1)))).length = (((a0_1).take ((Int.toNat (c20).1)))).length) (
                            needs (((((((a0_1).take ((Int.toNat (c20).1))) ++ ((((a0_1).take ((Int.toNat (((a0_1).length : Nat) : Int))))).drop ((Int.toNat (IntKind.i64.wrap ((c20).1 + (1 : Int)))))))).length * 8) ≤ 140737488355328) ∧ ((((((a0_1).take ((Int.toNat (c20).1))) ++ ((((a0_1).take ((Int.toNat (((a0_1).length : Nat) : Int))))).drop ((Int.toNat (IntKind.i64.wrap ((c20).1 + (1 : Int)))))))).length * 1) ≤ 140737488355328)) (
                            c = (((((((a0_0).take ((Int.toNat (c20).1))) ++ ((((a0_0).take ((Int.toNat (((a0_0).length : Nat) : Int))))).drop ((Int.toNat (IntKind.i64.wrap ((c20).1 + (1 : Int)))))))).take (((((a0_0).take ((Int.toNat (c20).1))) ++ ((((a0_0).take ((Int.toNat (((a0_0).length : Nat) : Int))))).drop ((Int.toNat (IntKind.i64.wrap ((c20).1 + (1 : Int)))))))).length)), ((((((a0_1).take ((Int.toNat (c20).1))) ++ ((((a0_1).take ((Int.toNat (((a0_1).length : Nat) : Int))))).drop ((Int.toNat (IntKind.i64.wrap ((c20).1 + (1 : Int)))))))).take (((((a0_1).take ((Int.toNat (c20).1))) ++ ((((a0_1).take ((Int.toNat (((a0_1).length : Nat) : Int))))).drop ((Int.toNat (IntKind.i64.wrap ((c20).1 + (1 : Int)))))))).length)), (a0_2, ()))), ((0 : Int), ()))))))))))))) (
                            cond (decide (((((a0_2).length : Nat) : Int) ≥ (4096 : Int)))) (
                              c = ((a0_0, (a0_1, (a0_2, ()))), ((6 : Int), ()))) (
                              cond ((a1_0 == (2 : Int))) (
                                needs ((0 : Int) ≤ (c21).1) (
                                optAll ((a0_1)[(Int.toNat (c21).1)]?) fun (r44 : List DV) =>
                                optAll ((dInt IntKind.i64 r44 0)) fun (z45 : Int) =>
                                needs ((((a0_0).length * 16) ≤ 140737488355328) ∧ (((a0_0).length * 2) ≤ 140737488355328)) (
                                needs ((a0_0).length = (a0_0).length) (
                                needs (((((a0_0 ++ (([[(DV.v (Value.int IntKind.i64 a1_1)), (DV.v (Value.int IntKind.i64 a1_2))]]).take (1)))).length * 16) ≤ 140737488355328) ∧ ((((a0_0 ++ (([[(DV.v (Value.int IntKind.i64 a1_1)), (DV.v (Value.int IntKind.i64 a1_2))]]).take (1)))).length * 2) ≤ 140737488355328)) (
                                needs ((((a0_1).length * 8) ≤ 140737488355328) ∧ (((a0_1).length * 1) ≤ 140737488355328)) (
                                needs ((a0_1).length = (a0_1).length) (
                                needs (((((a0_1 ++ (([[(DV.v (Value.int IntKind.i64 (((a0_2).length : Nat) : Int)))]]).take (1)))).length * 8) ≤ 140737488355328) ∧ ((((a0_1 ++ (([[(DV.v (Value.int IntKind.i64 (((a0_2).length : Nat) : Int)))]]).take (1)))).length * 1) ≤ 140737488355328)) (
                                needs ((((a0_2).length * 8) ≤ 140737488355328) ∧ (((a0_2).length * 1) ≤ 140737488355328)) (
                                needs ((a0_2).length = (a0_2).length) (
                                needs (((((a0_2 ++ (([[(DV.v (Value.int IntKind.i64 z45))]]).take (1)))).length * 8) ≤ 140737488355328) ∧ ((((a0_2 ++ (([[(DV.v (Value.int IntKind.i64 z45))]]).take (1)))).length * 1) ≤ 140737488355328)) (
                                c = (((((a0_0 ++ (([[(DV.v (Value.int IntKind.i64 a1_1)), (DV.v (Value.int IntKind.i64 a1_2))]]).take (1)))).take (((a0_0 ++ (([[(DV.v (Value.int IntKind.i64 a1_1)), (DV.v (Value.int IntKind.i64 a1_2))]]).take (1)))).length)), ((((a0_1 ++ (([[(DV.v (Value.int IntKind.i64 (((a0_2).length : Nat) : Int)))]]).take (1)))).take (((a0_1 ++ (([[(DV.v (Value.int IntKind.i64 (((a0_2).length : Nat) : Int)))]]).take (1)))).length)), ((((a0_2 ++ (([[(DV.v (Value.int IntKind.i64 z45))]]).take (1)))).take (((a0_2 ++ (([[(DV.v (Value.int IntKind.i64 z45))]]).take (1)))).length)), ()))), ((0 : Int), ()))))))))))))) (
                                needs ((((a0_0).length * 16) ≤ 140737488355328) ∧ (((a0_0).length * 2) ≤ 140737488355328)) (
                                needs ((a0_0).length = (a0_0).length) (
                                needs (((((a0_0 ++ (([[(DV.v (Value.int IntKind.i64 a1_1)), (DV.v (Value.int IntKind.i64 a1_2))]]).take (1)))).length * 16) ≤ 140737488355328) ∧ ((((a0_0 ++ (([[(DV.v (Value.int IntKind.i64 a1_1)), (DV.v (Value.int IntKind.i64 a1_2))]]).take (1)))).length * 2) ≤ 140737488355328)) (
                                needs ((((a0_1).length * 8) ≤ 140737488355328) ∧ (((a0_1).length * 1) ≤ 140737488355328)) (
                                needs ((a0_1).length = (a0_1).length) (
                                needs (((((a0_1 ++ (([[(DV.v (Value.int IntKind.i64 (((a0_2).length : Nat) : Int)))]]).take (1)))).length * 8) ≤ 140737488355328) ∧ ((((a0_1 ++ (([[(DV.v (Value.int IntKind.i64 (((a0_2).length : Nat) : Int)))]]).take (1)))).length * 1) ≤ 140737488355328)) (
                                needs ((((a0_2).length * 8) ≤ 140737488355328) ∧ (((a0_2).length * 1) ≤ 140737488355328)) (
                                needs ((a0_2).length = (a0_2).length) (
                                needs (((((a0_2 ++ (([[(DV.v (Value.int IntKind.i64 (-1 : Int)))]]).take (1)))).length * 8) ≤ 140737488355328) ∧ ((((a0_2 ++ (([[(DV.v (Value.int IntKind.i64 (-1 : Int)))]]).take (1)))).length * 1) ≤ 140737488355328)) (
                                c = (((((a0_0 ++ (([[(DV.v (Value.int IntKind.i64 a1_1)), (DV.v (Value.int IntKind.i64 a1_2))]]).take (1)))).take (((a0_0 ++ (([[(DV.v (Value.int IntKind.i64 a1_1)), (DV.v (Value.int IntKind.i64 a1_2))]]).take (1)))).length)), ((((a0_1 ++ (([[(DV.v (Value.int IntKind.i64 (((a0_2).length : Nat) : Int)))]]).take (1)))).take (((a0_1 ++ (([[(DV.v (Value.int IntKind.i64 (((a0_2).length : Nat) : Int)))]]).take (1)))).length)), ((((a0_2 ++ (([[(DV.v (Value.int IntKind.i64 (-1 : Int)))]]).take (1)))).take (((a0_2 ++ (([[(DV.v (Value.int IntKind.i64 (-1 : Int)))]]).take (1)))).length)), ()))), ((0 : Int), ())))))))))))))))))))) (
                optAll (ref14_find.R a0_0 a0_1 a0_2 a1_1 a1_2) fun (c46 : (Int × Unit)) =>
                optAll (ref14_find.R a0_0 a0_1 a0_2 a1_3 a1_4) fun (c47 : (Int × Unit)) =>
                cond ((a1_0 == (3 : Int))) (
                  cond (decide (((c47).1 < (0 : Int)))) (
                    c = ((a0_0, (a0_1, (a0_2, ()))), ((7 : Int), ()))) (
                    cond ((a1_0 == (4 : Int))) (
                      cond (decide (((c46).1 < (0 : Int)))) (
                        c = ((a0_0, (a0_1, (a0_2, ()))), ((7 : Int), ()))) (
                        cond ((a1_0 != (4 : Int))) (
                          cond (decide (((c46).1 ≥ (0 : Int)))) (
                            c = ((a0_0, (a0_1, (a0_2, ()))), ((8 : Int), ()))) (
                            cond ((a1_0 == (3 : Int))) (
                              needs ((((a0_0).length * 16) ≤ 140737488355328) ∧ (((a0_0).length * 2) ≤ 140737488355328)) (
                              needs (((0 : Int) ≤ (c47).1) ∧ ((c47).1 < (((a0_0).length : Nat) : Int))) (
                              optAll ((a0_0)[(0 + (Int.toNat (c47).1))]?) fun (r48 : List DV) =>
                              needs (2 ≤ (r48).length) (
                              c = ((((((a0_0).set ((0 + (Int.toNat (c47).1))) (putD r48 0 [(DV.v (Value.int IntKind.i64 a1_1)), (DV.v (Value.int IntKind.i64 a1_2))]))).take ((a0_0).length)), (a0_1, (a0_2, ()))), ((0 : Int), ())))))) (
                              cond ((a1_0 == (4 : Int))) (
                                needs (((0 : Int) ≤ (0 : Int)) ∧ (((0 : Int) ≤ (c46).1) ∧ ((c46).1 ≤ (((a0_0).length : Nat) : Int)))) (
                                needs ((((((a0_0).take ((Int.toNat (c46).1)))).length * 16) ≤ 140737488355328) ∧ (((((a0_0).take ((Int.toNat (c46).1)))).length * 2) ≤ 140737488355328)) (
                                needs (((0 : Int) ≤ (IntKind.i64.wrap ((c46).1 + (1 : Int)))) ∧ (((IntKind.i64.wrap ((c46).1 + (1 : Int))) ≤ (((a0_0).length : Nat) : Int)) ∧ ((((a0_0).length : Nat) : Int) ≤ (((a0_0).length : Nat) : Int)))) (
                                needs ((((a0_0).take ((Int.toNat (c46).1)))).length = (((a0_0).take ((Int.toNat (c46).1)))).length) (
                                needs (((((((a0_0).take ((Int.toNat (c46).1))) ++ ((((a0_0).take ((Int.toNat (((a0_0).length : Nat) : Int))))).drop ((Int.toNat (IntKind.i64.wrap ((c46).1 + (1 : Int)))))))).length * 16) ≤ 140737488355328) ∧ ((((((a0_0).take ((Int.toNat (c46).1))) ++ ((((a0_0).take ((Int.toNat (((a0_0).length : Nat) : Int))))).drop ((Int.toNat (IntKind.i64.wrap ((c46).1 + (1 : Int)))))))).length * 2) ≤ 140737488355328)) (
                                needs (((0 : Int) ≤ (0 : Int)) ∧ (((0 : Int) ≤ (c46).1) ∧ ((c46).1 ≤ (((a0_1).length : Nat) : Int)))) (
                                needs ((((((a0_1).take ((Int.toNat (c46).1)))).length * 8) ≤ 140737488355328) ∧ (((((a0_1).take ((Int.toNat (c46).1)))).length * 1) ≤ 140737488355328)) (
                                needs (((0 : Int) ≤ (IntKind.i64.wrap ((c46).1 + (1 : Int)))) ∧ (((IntKind.i64.wrap ((c46).1 + (1 : Int))) ≤ (((a0_1).length : Nat) : Int)) ∧ ((((a0_1).length : Nat) : Int) ≤ (((a0_1).length : Nat) : Int)))) (
                                needs ((((a0_1).take ((Int.toNat (c46).1)))).length = (((a0_1).take ((Int.toNat (c46).1)))).length) (
                                needs (((((((a0_1).take ((Int.toNat (c46).1))) ++ ((((a0_1).take ((Int.toNat (((a0_1).length : Nat) : Int))))).drop ((Int.toNat (IntKind.i64.wrap ((c46).1 + (1 : Int)))))))).length * 8) ≤ 140737488355328) ∧ ((((((a0_1).take ((Int.toNat (c46).1))) ++ ((((a0_1).take ((Int.toNat (((a0_1).length : Nat) : Int))))).drop ((Int.toNat (IntKind.i64.wrap ((c46).1 + (1 : Int)))))))).length * 1) ≤ 140737488355328)) (
                                c = (((((((a0_0).take ((Int.toNat (c46).1))) ++ ((((a0_0).take ((Int.toNat (((a0_0).length : Nat) : Int))))).drop ((Int.toNat (IntKind.i64.wrap ((c46).1 + (1 : Int)))))))).take (((((a0_0).take ((Int.toNat (c46).1))) ++ ((((a0_0).take ((Int.toNat (((a0_0).length : Nat) : Int))))).drop ((Int.toNat (IntKind.i64.wrap ((c46).1 + (1 : Int)))))))).length)), ((((((a0_1).take ((Int.toNat (c46).1))) ++ ((((a0_1).take ((Int.toNat (((a0_1).length : Nat) : Int))))).drop ((Int.toNat (IntKind.i64.wrap ((c46).1 + (1 : Int)))))))).take (((((a0_1).take ((Int.toNat (c46).1))) ++ ((((a0_1).take ((Int.toNat (((a0_1).length : Nat) : Int))))).drop ((Int.toNat (IntKind.i64.wrap ((c46).1 + (1 : Int)))))))).length)), (a0_2, ()))), ((0 : Int), ()))))))))))))) (
                                cond (decide (((((a0_2).length : Nat) : Int) ≥ (4096 : Int)))) (
                                  c = ((a0_0, (a0_1, (a0_2, ()))), ((6 : Int), ()))) (
                                  cond ((a1_0 == (2 : Int))) (
                                    needs ((0 : Int) ≤ (c47).1) (
                                    optAll ((a0_1)[(Int.toNat (c47).1)]?) fun (r49 : List DV) =>
                                    optAll ((dInt IntKind.i64 r49 0)) fun (z50 : Int) =>
                                    needs ((((a0_0).length * 16) ≤ 140737488355328) ∧ (((a0_0).length * 2) ≤ 140737488355328)) (
                                    needs ((a0_0).length = (a0_0).length) (
                                    needs (((((a0_0 ++ (([[(DV.v (Value.int IntKind.i64 a1_1)), (DV.v (Value.int IntKind.i64 a1_2))]]).take (1)))).length * 16) ≤ 140737488355328) ∧ ((((a0_0 ++ (([[(DV.v (Value.int IntKind.i64 a1_1)), (DV.v (Value.int IntKind.i64 a1_2))]]).take (1)))).length * 2) ≤ 140737488355328)) (
                                    needs ((((a0_1).length * 8) ≤ 140737488355328) ∧ (((a0_1).length * 1) ≤ 140737488355328)) (
                                    needs ((a0_1).length = (a0_1).length) (
                                    needs (((((a0_1 ++ (([[(DV.v (Value.int IntKind.i64 (((a0_2).length : Nat) : Int)))]]).take (1)))).length * 8) ≤ 140737488355328) ∧ ((((a0_1 ++ (([[(DV.v (Value.int IntKind.i64 (((a0_2).length : Nat) : Int)))]]).take (1)))).length * 1) ≤ 140737488355328)) (
                                    needs ((((a0_2).length * 8) ≤ 140737488355328) ∧ (((a0_2).length * 1) ≤ 140737488355328)) (
                                    needs ((a0_2).length = (a0_2).length) (
                                    needs (((((a0_2 ++ (([[(DV.v (Value.int IntKind.i64 z50))]]).take (1)))).length * 8) ≤ 140737488355328) ∧ ((((a0_2 ++ (([[(DV.v (Value.int IntKind.i64 z50))]]).take (1)))).length * 1) ≤ 140737488355328)) (
                                    c = (((((a0_0 ++ (([[(DV.v (Value.int IntKind.i64 a1_1)), (DV.v (Value.int IntKind.i64 a1_2))]]).take (1)))).take (((a0_0 ++ (([[(DV.v (Value.int IntKind.i64 a1_1)), (DV.v (Value.int IntKind.i64 a1_2))]]).take (1)))).length)), ((((a0_1 ++ (([[(DV.v (Value.int IntKind.i64 (((a0_2).length : Nat) : Int)))]]).take (1)))).take (((a0_1 ++ (([[(DV.v (Value.int IntKind.i64 (((a0_2).length : Nat) : Int)))]]).take (1)))).length)), ((((a0_2 ++ (([[(DV.v (Value.int IntKind.i64 z50))]]).take (1)))).take (((a0_2 ++ (([[(DV.v (Value.int IntKind.i64 z50))]]).take (1)))).length)), ()))), ((0 : Int), ()))))))))))))) (
                                    needs ((((a0_0).length * 16) ≤ 140737488355328) ∧ (((a0_0).length * 2) ≤ 140737488355328)) (
                                    needs ((a0_0).length = (a0_0).length) (
                                    needs (((((a0_0 ++ (([[(DV.v (Value.int IntKind.i64 a1_1)), (DV.v (Value.int IntKind.i64 a1_2))]]).take (1)))).length * 16) ≤ 140737488355328) ∧ ((((a0_0 ++ (([[(DV.v (Value.int IntKind.i64 a1_1)), (DV.v (Value.int IntKind.i64 a1_2))]]).take (1)))).length * 2) ≤ 140737488355328)) (
                                    needs ((((a0_1).length * 8) ≤ 140737488355328) ∧ (((a0_1).length * 1) ≤ 140737488355328)) (
                                    needs ((a0_1).length = (a0_1).length) (
                                    needs (((((a0_1 ++ (([[(DV.v (Value.int IntKind.i64 (((a0_2).length : Nat) : Int)))]]).take (1)))).length * 8) ≤ 140737488355328) ∧ ((((a0_1 ++ (([[(DV.v (Value.int IntKind.i64 (((a0_2).length : Nat) : Int)))]]).take (1)))).length * 1) ≤ 140737488355328)) (
                                    needs ((((a0_2).length * 8) ≤ 140737488355328) ∧ (((a0_2).length * 1) ≤ 140737488355328)) (
                                    needs ((a0_2).length = (a0_2).length) (
                                    needs (((((a0_2 ++ (([[(DV.v (Value.int IntKind.i64 (-1 : Int)))]]).take (1)))).length * 8) ≤ 140737488355328) ∧ ((((a0_2 ++ (([[(DV.v (Value.int IntKind.i64 (-1 : Int)))]]).take (1)))).length * 1) ≤ 140737488355328)) (
                                    c = (((((a0_0 ++ (([[(DV.v (Value.int IntKind.i64 a1_1)), (DV.v (Value.int IntKind.i64 a1_2))]]).take (1)))).take (((a0_0 ++ (([[(DV.v (Value.int IntKind.i64 a1_1)), (DV.v (Value.int IntKind.i64 a1_2))]]).take (1)))).length)), ((((a0_1 ++ (([[(DV.v (Value.int IntKind.i64 (((a0_2).length : Nat) : Int)))]]).take (1)))).take (((a0_1 ++ (([[(DV.v (Value.int IntKind.i64 (((a0_2).length : Nat) : Int)))]]).take (1)))).length)), ((((a0_2 ++ (([[(DV.v (Value.int IntKind.i64 (-1 : Int)))]]).take (1)))).take (((a0_2 ++ (([[(DV.v (Value.int IntKind.i64 (-1 : Int)))]]).take (1)))).length)), ()))), ((0 : Int), ()))))))))))))))))) (
                          cond ((a1_0 == (3 : Int))) (
                            needs ((((a0_0).length * 16) ≤ 140737488355328) ∧ (((a0_0).length * 2) ≤ 140737488355328)) (
                            needs (((0 : Int) ≤ (c47).1) ∧ ((c47).1 < (((a0_0).length : Nat) : Int))) (
                            optAll ((a0_0)[(0 + (Int.toNat (c47).1))]?) fun (r51 : List DV) =>
                            needs (2 ≤ (r51).length) (
                            c = ((((((a0_0).set ((0 + (Int.toNat (c47).1))) (putD r51 0 [(DV.v (Value.int IntKind.i64 a1_1)), (DV.v (Value.int IntKind.i64 a1_2))]))).take ((a0_0).length)), (a0_1, (a0_2, ()))), ((0 : Int), ())))))) (
                            cond ((a1_0 == (4 : Int))) (
                              needs (((0 : Int) ≤ (0 : Int)) ∧ (((0 : Int) ≤ (c46).1) ∧ ((c46).1 ≤ (((a0_0).length : Nat) : Int)))) (
                              needs ((((((a0_0).take ((Int.toNat (c46).1)))).length * 16) ≤ 140737488355328) ∧ (((((a0_0).take ((Int.toNat (c46).1)))).length * 2) ≤ 140737488355328)) (
                              needs (((0 : Int) ≤ (IntKind.i64.wrap ((c46).1 + (1 : Int)))) ∧ (((IntKind.i64.wrap ((c46).1 + (1 : Int))) ≤ (((a0_0).length : Nat) : Int)) ∧ ((((a0_0).length : Nat) : Int) ≤ (((a0_0).length : Nat) : Int)))) (
                              needs ((((a0_0).take ((Int.toNat (c46).1)))).length = (((a0_0).take ((Int.toNat (c46).1)))).length) (
                              needs (((((((a0_0).take ((Int.toNat (c46).1))) ++ ((((a0_0).take ((Int.toNat (((a0_0).length : Nat) : Int))))).drop ((Int.toNat (IntKind.i64.wrap ((c46).1 + (1 : Int)))))))).length * 16) ≤ 140737488355328) ∧ ((((((a0_0).take ((Int.toNat (c46).1))) ++ ((((a0_0).take ((Int.toNat (((a0_0).length : Nat) : Int))))).drop ((Int.toNat (IntKind.i64.wrap ((c46).1 + (1 : Int)))))))).length * 2) ≤ 140737488355328)) (
                              needs (((0 : Int) ≤ (0 : Int)) ∧ (((0 : Int) ≤ (c46).1) ∧ ((c46).1 ≤ (((a0_1).length : Nat) : Int)))) (
                              needs ((((((a0_1).take ((Int.toNat (c46).1)))).length * 8) ≤ 140737488355328) ∧ (((((a0_1).take ((Int.toNat (c46).1)))).length * 1) ≤ 140737488355328)) (
                              needs (((0 : Int) ≤ (IntKind.i64.wrap ((c46).1 + (1 : Int)))) ∧ (((IntKind.i64.wrap ((c46).1 + (1 : Int))) ≤ (((a0_1).length : Nat) : Int)) ∧ ((((a0_1).length : Nat) : Int) ≤ (((a0_1).length : Nat) : Int)))) (
                              needs ((((a0_1).take ((Int.toNat (c46).1)))).length = (((a0_1).take ((Int.toNat (c46).1)))).length) (
                              needs (((((((a0_1).take ((Int.toNat (c46).1))) ++ ((((a0_1).take ((Int.toNat (((a0_1).length : Nat) : Int))))).drop ((Int.toNat (IntKind.i64.wrap ((c46).1 + (1 : Int)))))))).length * 8) ≤ 140737488355328) ∧ ((((((a0_1).take ((Int.toNat (c46).1))) ++ ((((a0_1).take ((Int.toNat (((a0_1).length : Nat) : Int))))).drop ((Int.toNat (IntKind.i64.wrap ((c46).1 + (1 : Int)))))))).length * 1) ≤ 140737488355328)) (
                              c = (((((((a0_0).take ((Int.toNat (c46).1))) ++ ((((a0_0).take ((Int.toNat (((a0_0).length : Nat) : Int))))).drop ((Int.toNat (IntKind.i64.wrap ((c46).1 + (1 : Int)))))))).take (((((a0_0).take ((Int.toNat (c46).1))) ++ ((((a0_0).take ((Int.toNat (((a0_0).length : Nat) : Int))))).drop ((Int.toNat (IntKind.i64.wrap ((c46).1 + (1 : Int)))))))).length)), ((((((a0_1).take ((Int.toNat (c46).1))) ++ ((((a0_1).take ((Int.toNat (((a0_1).length : Nat) : Int))))).drop ((Int.toNat (IntKind.i64.wrap ((c46).1 + (1 : Int)))))))).take (((((a0_1).take ((Int.toNat (c46).1))) ++ ((((a0_1).take ((Int.toNat (((a0_1).length : Nat) : Int))))).drop ((Int.toNat (IntKind.i64.wrap ((c46).1 + (1 : Int)))))))).length)), (a0_2, ()))), ((0 : Int), ()))))))))))))) (
                              cond (decide (((((a0_2).length : Nat) : Int) ≥ (4096 : Int)))) (
                                c = ((a0_0, (a0_1, (a0_2, ()))), ((6 : Int), ()))) (
                                cond ((a1_0 == (2 : Int))) (
                                  needs ((0 : Int) ≤ (c47).1) (
                                  optAll ((a0_1)[(Int.toNat (c47).1)]?) fun (r52 : List DV) =>
                                  optAll ((dInt IntKind.i64 r52 0)) fun (z53 : Int) =>
                                  needs ((((a0_0).length * 16) ≤ 140737488355328) ∧ (((a0_0).length * 2) ≤ 140737488355328)) (
                                  needs ((a0_0).length = (a0_0).length) (
                                  needs (((((a0_0 ++ (([[(DV.v (Value.int IntKind.i64 a1_1)), (DV.v (Value.int IntKind.i64 a1_2))]]).take (1)))).length * 16) ≤ 140737488355328) ∧ ((((a0_0 ++ (([[(DV.v (Value.int IntKind.i64 a1_1)), (DV.v (Value.int IntKind.i64 a1_2))]]).take (1)))).length * 2) ≤ 140737488355328)) (
                                  needs ((((a0_1).length * 8) ≤ 140737488355328) ∧ (((a0_1).length * 1) ≤ 140737488355328)) (
                                  needs ((a0_1).length = (a0_1).length) (
                                  needs (((((a0_1 ++ (([[(DV.v (Value.int IntKind.i64 (((a0_2).length : Nat) : Int)))]]).take (1)))).length * 8) ≤ 140737488355328) ∧ ((((a0_1 ++ (([[(DV.v (Value.int IntKind.i64 (((a0_2).length : Nat) : Int)))]]).take (1)))).length * 1) ≤ 140737488355328)) (
                                  needs ((((a0_2).length * 8) ≤ 140737488355328) ∧ (((a0_2).length * 1) ≤ 140737488355328)) (
                                  needs ((a0_2).length = (a0_2).length) (
                                  needs (((((a0_2 ++ (([[(DV.v (Value.int IntKind.i64 z53))]]).take (1)))).length * 8) ≤ 140737488355328) ∧ ((((a0_2 ++ (([[(DV.v (Value.int IntKind.i64 z53))]]).take (1)))).length * 1) ≤ 140737488355328)) (
                                  c = (((((a0_0 ++ (([[(DV.v (Value.int IntKind.i64 a1_1)), (DV.v (Value.int IntKind.i64 a1_2))]]).take (1)))).take (((a0_0 ++ (([[(DV.v (Value.int IntKind.i64 a1_1)), (DV.v (Value.int IntKind.i64 a1_2))]]).take (1)))).length)), ((((a0_1 ++ (([[(DV.v (Value.int IntKind.i64 (((a0_2).length : Nat) : Int)))]]).take (1)))).take (((a0_1 ++ (([[(DV.v (Value.int IntKind.i64 (((a0_2).length : Nat) : Int)))]]).take (1)))).length)), ((((a0_2 ++ (([[(DV.v (Value.int IntKind.i64 z53))]]).take (1)))).take (((a0_2 ++ (([[(DV.v (Value.int IntKind.i64 z53))]]).take (1)))).length)), ()))), ((0 : Int), ()))))))))))))) (
                                  needs ((((a0_0).length * 16) ≤ 140737488355328) ∧ (((a0_0).length * 2) ≤ 140737488355328)) (
                                  needs ((a0_0).length = (a0_0).length) (
                                  needs (((((a0_0 ++ (([[(DV.v (Value.int IntKind.i64 a1_1)), (DV.v (Value.int IntKind.i64 a1_2))]]).take (1)))).length * 16) ≤ 140737488355328) ∧ ((((a0_0 ++ (([[(DV.v (Value.int IntKind.i64 a1_1)), (DV.v (Value.int IntKind.i64 a1_2))]]).take (1)))).length * 2) ≤ 140737488355328)) (
                                  needs ((((a0_1).length * 8) ≤ 140737488355328) ∧ (((a0_1).length * 1) ≤ 140737488355328)) (
                                  needs ((a0_1).length = (a0_1).length) (
                                  needs (((((a0_1 ++ (([[(DV.v (Value.int IntKind.i64 (((a0_2).length : Nat) : Int)))]]).take (1)))).length * 8) ≤ 140737488355328) ∧ ((((a0_1 ++ (([[(DV.v (Value.int IntKind.i64 (((a0_2).length : Nat) : Int)))]]).take (1)))).length * 1) ≤ 140737488355328)) (
                                  needs ((((a0_2).length * 8) ≤ 140737488355328) ∧ (((a0_2).length * 1) ≤ 140737488355328)) (
                                  needs ((a0_2).length = (a0_2).length) (
                                  needs (((((a0_2 ++ (([[(DV.v (Value.int IntKind.i64 (-1 : Int)))]]).take (1)))).length * 8) ≤ 140737488355328) ∧ ((((a0_2 ++ (([[(DV.v (Value.int IntKind.i64 (-1 : Int)))]]).take (1)))).length * 1) ≤ 140737488355328)) (
                                  c = (((((a0_0 ++ (([[(DV.v (Value.int IntKind.i64 a1_1)), (DV.v (Value.int IntKind.i64 a1_2))]]).take (1)))).take (((a0_0 ++ (([[(DV.v (Value.int IntKind.i64 a1_1)), (DV.v (Value.int IntKind.i64 a1_2))]]).take (1)))).length)), ((((a0_1 ++ (([[(DV.v (Value.int IntKind.i64 (((a0_2).length : Nat) : Int)))]]).take (1)))).take (((a0_1 ++ (([[(DV.v (Value.int IntKind.i64 (((a0_2).length : Nat) : Int)))]]).take (1)))).length)), ((((a0_2 ++ (([[(DV.v (Value.int IntKind.i64 (-1 : Int)))]]).take (1)))).take (((a0_2 ++ (([[(DV.v (Value.int IntKind.i64 (-1 : Int)))]]).take (1)))).length)), ()))), ((0 : Int), ())))))))))))))))))) (
                      cond ((a1_0 != (4 : Int))) (
                        cond (decide (((c46).1 ≥ (0 : Int)))) (
                          c = ((a0_0, (a0_1, (a0_2, ()))), ((8 : Int), ()))) (
                          cond ((a1_0 == (3 : Int))) (
                            needs ((((a0_0).length * 16) ≤ 140737488355328) ∧ (((a0_0).length * 2) ≤ 140737488355328)) (
                            needs (((0 : Int) ≤ (c47).1) ∧ ((c47).1 < (((a0_0).length : Nat) : Int))) (
                            optAll ((a0_0)[(0 + (Int.toNat (c47).1))]?) fun (r54 : List DV) =>
                            needs (2 ≤ (r54).length) (
                            c = ((((((a0_0).set ((0 + (Int.toNat (c47).1))) (putD r54 0 [(DV.v (Value.int IntKind.i64 a1_1)), (DV.v (Value.int IntKind.i64 a1_2))]))).take ((a0_0).length)), (a0_1, (a0_2, ()))), ((0 : Int), ())))))) (
                            cond ((a1_0 == (4 : Int))) (
                              needs (((0 : Int) ≤ (0 : Int)) ∧ (((0 : Int) ≤ (c46).1) ∧ ((c46).1 ≤ (((a0_0).length : Nat) : Int)))) (
                              needs ((((((a0_0).take ((Int.toNat (c46).1)))).length * 16) ≤ 140737488355328) ∧ (((((a0_0).take ((Int.toNat (c46).1)))).length * 2) ≤ 140737488355328)) (
                              needs (((0 : Int) ≤ (IntKind.i64.wrap ((c46).1 + (1 : Int)))) ∧ (((IntKind.i64.wrap ((c46).1 + (1 : Int))) ≤ (((a0_0).length : Nat) : Int)) ∧ ((((a0_0).length : Nat) : Int) ≤ (((a0_0).length : Nat) : Int)))) (
                              needs ((((a0_0).take ((Int.toNat (c46).1)))).length = (((a0_0).take ((Int.toNat (c46).1)))).length) (
                              needs (((((((a0_0).take ((Int.toNat (c46).1))) ++ ((((a0_0).take ((Int.toNat (((a0_0).length : Nat) : Int))))).drop ((Int.toNat (IntKind.i64.wrap ((c46).1 + (1 : Int)))))))).length * 16) ≤ 140737488355328) ∧ ((((((a0_0).take ((Int.toNat (c46).1))) ++ ((((a0_0).take ((Int.toNat (((a0_0).length : Nat) : Int))))).drop ((Int.toNat (IntKind.i64.wrap ((c46).1 + (1 : Int)))))))).length * 2) ≤ 140737488355328)) (
                              needs (((0 : Int) ≤ (0 : Int)) ∧ (((0 : Int) ≤ (c46).1) ∧ ((c46).1 ≤ (((a0_1).length : Nat) : Int)))) (
                              needs ((((((a0_1).take ((Int.toNat (c46).1)))).length * 8) ≤ 140737488355328) ∧ (((((a0_1).take ((Int.toNat (c46).1)))).length * 1) ≤ 140737488355328)) (
                              needs (((0 : Int) ≤ (IntKind.i64.wrap ((c46).1 + (1 : Int)))) ∧ (((IntKind.i64.wrap ((c46).1 + (1 : Int))) ≤ (((a0_1).length : Nat) : Int)) ∧ ((((a0_1).length : Nat) : Int) ≤ (((a0_1).length : Nat) : Int)))) (
                              needs ((((a0_1).take ((Int.toNat (c46).1)))).length = (((a0_1).take ((Int.toNat (c46).1)))).length) (
                              needs (((((((a0_1).take ((Int.toNat (c46).1))) ++ ((((a0_1).take ((Int.toNat (((a0_1).length : Nat) : Int))))).drop ((Int.toNat (IntKind.i64.wrap ((c46).1 + (1 : Int)))))))).length * 8) ≤ 140737488355328) ∧ ((((((a0_1).take ((Int.toNat (c46).1))) ++ ((((a0_1).take ((Int.toNat (((a0_1).length : Nat) : Int))))).drop ((Int.toNat (IntKind.i64.wrap ((c46).1 + (1 : Int)))))))).length * 1) ≤ 140737488355328)) (
                              c = (((((((a0_0).take ((Int.toNat (c46).1))) ++ ((((a0_0).take ((Int.toNat (((a0_0).length : Nat) : Int))))).drop ((Int.toNat (IntKind.i64.wrap ((c46).1 + (1 : Int)))))))).take (((((a0_0).take ((Int.toNat (c46).1))) ++ ((((a0_0).take ((Int.toNat (((a0_0).length : Nat) : Int))))).drop ((Int.toNat (IntKind.i64.wrap ((c46).1 + (1 : Int)))))))).length)), ((((((a0_1).take ((Int.toNat (c46).1))) ++ ((((a0_1).take ((Int.toNat (((a0_1).length : Nat) : Int))))).drop ((Int.toNat (IntKind.i64.wrap ((c46).1 + (1 : Int)))))))).take (((((a0_1).take ((Int.toNat (c46).1))) ++ ((((a0_1).take ((Int.toNat (((a0_1).length : Nat) : Int))))).drop ((Int.toNat (IntKind.i64.wrap ((c46).1 + (1 : Int)))))))).length)), (a0_2, ()))), ((0 : Int), ()))))))))))))) (
                              cond (decide (((((a0_2).length : Nat) : Int) ≥ (4096 : Int)))) (
                                c = ((a0_0, (a0_1, (a0_2, ()))), ((6 : Int), ()))) (
                                cond ((a1_0 == (2 : Int))) (
                                  needs ((0 : Int) ≤ (c47).1) (
                                  optAll ((a0_1)[(Int.toNat (c47).1)]?) fun (r55 : List DV) =>
                                  optAll ((dInt IntKind.i64 r55 0)) fun (z56 : Int) =>
                                  needs ((((a0_0).length * 16) ≤ 140737488355328) ∧ (((a0_0).length * 2) ≤ 140737488355328)) (
                                  needs ((a0_0).length = (a0_0).length) (
                                  needs (((((a0_0 ++ (([[(DV.v (Value.int IntKind.i64 a1_1)), (DV.v (Value.int IntKind.i64 a1_2))]]).take (1)))).length * 16) ≤ 140737488355328) ∧ ((((a0_0 ++ (([[(DV.v (Value.int IntKind.i64 a1_1)), (DV.v (Value.int IntKind.i64 a1_2))]]).take (1)))).length * 2) ≤ 140737488355328)) (
                                  needs ((((a0_1).length * 8) ≤ 140737488355328) ∧ (((a0_1).length * 1) ≤ 140737488355328)) (
                                  needs ((a0_1).length = (a0_1).length) (
                                  needs (((((a0_1 ++ (([[(DV.v (Value.int IntKind.i64 (((a0_2).length : Nat) : Int)))]]).take (1)))).length * 8) ≤ 140737488355328) ∧ ((((a0_1 ++ (([[(DV.v (Value.int IntKind.i64 (((a0_2).length : Nat) : Int)))]]).take (1)))).length * 1) ≤ 140737488355328)) (
                                  needs ((((a0_2).length * 8) ≤ 140737488355328) ∧ (((a0_2).length * 1) ≤ 140737488355328)) (
                                  needs ((a0_2).length = (a0_2).length) (
                                  needs (((((a0_2 ++ (([[(DV.v (Value.int IntKind.i64 z56))]]).take (1)))).length * 8) ≤ 140737488355328) ∧ ((((a0_2 ++ (([[(DV.v (Value.int IntKind.i64 z56))]]).take (1)))).length * 1) ≤ 140737488355328)) (
                                  c = (((((a0_0 ++ (([[(DV.v (Value.int IntKind.i64 a1_1)), (DV.v (Value.int IntKind.i64 a1_2))]]).take (1)))).take (((a0_0 ++ (([[(DV.v (Value.int IntKind.i64 a1_1)), (DV.v (Value.int IntKind.i64 a1_2))]]).take (1)))).length)), ((((a0_1 ++ (([[(DV.v (Value.int IntKind.i64 (((a0_2).length : Nat) : Int)))]]).take (1)))).take (((a0_1 ++ (([[(DV.v (Value.int IntKind.i64 (((a0_2).length : Nat) : Int)))]]).take (1)))).length)), ((((a0_2 ++ (([[(DV.v (Value.int IntKind.i64 z56))]]).take (1)))).take (((a0_2 ++ (([[(DV.v (Value.int IntKind.i64 z56))]]).take (1)))).length)), ()))), ((0 : Int), ()))))))))))))) (
                                  needs ((((a0_0).length * 16) ≤ 140737488355328) ∧ (((a0_0).length * 2) ≤ 140737488355328)) (
                                  needs ((a0_0).length = (a0_0).length) (
                                  needs (((((a0_0 ++ (([[(DV.v (Value.int IntKind.i64 a1_1)), (DV.v (Value.int IntKind.i64 a1_2))]]).take (1)))).length * 16) ≤ 140737488355328) ∧ ((((a0_0 ++ (([[(DV.v (Value.int IntKind.i64 a1_1)), (DV.v (Value.int IntKind.i64 a1_2))]]).take (1)))).length * 2) ≤ 140737488355328)) (
                                  needs ((((a0_1).length * 8) ≤ 140737488355328) ∧ (((a0_1).length * 1) ≤ 140737488355328)) (
                                  needs ((a0_1).length = (a0_1).length) (
                                  needs (((((a0_1 ++ (([[(DV.v (Value.int IntKind.i64 (((a0_2).length : Nat) : Int)))]]).take (1)))).length * 8) ≤ 140737488355328) ∧ ((((a0_1 ++ (([[(DV.v (Value.int IntKind.i64 (((a0_2).length : Nat) : Int)))]]).take (1)))).length * 1) ≤ 140737488355328)) (
                                  needs ((((a0_2).length * 8) ≤ 140737488355328) ∧ (((a0_2).length * 1) ≤ 140737488355328)) (
                                  needs ((a0_2).length = (a0_2).length) (
                                  needs (((((a0_2 ++ (([[(DV.v (Value.int IntKind.i64 (-1 : Int)))]]).take (1)))).length * 8) ≤ 140737488355328) ∧ ((((a0_2 ++ (([[(DV.v (Value.int IntKind.i64 (-1 : Int)))]]).take (1)))).length * 1) ≤ 140737488355328)) (
                                  c = (((((a0_0 ++ (([[(DV.v (Value.int IntKind.i64 a1_1)), (DV.v (Value.int IntKind.i64 a1_2))]]).take (1)))).take (((a0_0 ++ (([[(DV.v (Value.int IntKind.i64 a1_1)), (DV.v (Value.int IntKind.i64 a1_2))]]).take (1)))).length)), ((((a0_1 ++ (([[(DV.v (Value.int IntKind.i64 (((a0_2).length : Nat) : Int)))]]).take (1)))).take (((a0_1 ++ (([[(DV.v (Value.int IntKind.i64 (((a0_2).length : Nat) : Int)))]]).take (1)))).length)), ((((a0_2 ++ (([[(DV.v (Value.int IntKind.i64 (-1 : Int)))]]).take (1)))).take (((a0_2 ++ (([[(DV.v (Value.int IntKind.i64 (-1 : Int)))]]).take (1)))).length)), ()))), ((0 : Int), ()))))))))))))))))) (
                        cond ((a1_0 == (3 : Int))) (
                          needs ((((a0_0).length * 16) ≤ 140737488355328) ∧ (((a0_0).length * 2) ≤ 140737488355328)) (
                          needs (((0 : Int) ≤ (c47).1) ∧ ((c47).1 < (((a0_0).length : Nat) : Int))) (
                          optAll ((a0_0)[(0 + (Int.toNat (c47).1))]?) fun (r57 : List DV) =>
                          needs (2 ≤ (r57).length) (
                          c = ((((((a0_0).set ((0 + (Int.toNat (c47).1))) (putD r57 0 [(DV.v (Value.int IntKind.i64 a1_1)), (DV.v (Value.int IntKind.i64 a1_2))]))).take ((a0_0).length)), (a0_1, (a0_2, ()))), ((0 : Int), ())))))) (
                          cond ((a1_0 == (4 : Int))) (
                            needs (((0 : Int) ≤ (0 : Int)) ∧ (((0 : Int) ≤ (c46).1) ∧ ((c46).1 ≤ (((a0_0).length : Nat) : Int)))) (
                            needs ((((((a0_0).take ((Int.toNat (c46).1)))).length * 16) ≤ 140737488355328) ∧ (((((a0_0).take ((Int.toNat (c46).1)))).length * 2) ≤ 140737488355328)) (
                            needs (((0 : Int) ≤ (IntKind.i64.wrap ((c46).1 + (1 : Int)))) ∧ (((IntKind.i64.wrap ((c46).1 + (1 : Int))) ≤ (((a0_0).length : Nat) : Int)) ∧ ((((a0_0).length : Nat) : Int) ≤ (((a0_0).length : Nat) : Int)))) (
                            needs ((((a0_0).take ((Int.toNat (c46).1)))).length = (((a0_0).take ((Int.toNat (c46).1)))).length) (
                            needs (((((((a0_0).take ((Int.toNat (c46).1))) ++ ((((a0_0).take ((Int.toNat (((a0_0).length : Nat) : Int))))).drop ((Int.toNat (IntKind.i64.wrap ((c46).1 + (1 : Int)))))))).length * 16) ≤ 140737488355328) ∧ ((((((a0_0).take ((Int.toNat (c46).1))) ++ ((((a0_0).take ((Int.toNat (((a0_0).length : Nat) : Int))))).drop ((Int.toNat (IntKind.i64.wrap ((c46).1 + (1 : Int)))))))).length * 2) ≤ 140737488355328)) (
                            needs (((0 : Int) ≤ (0 : Int)) ∧ (((0 : Int) ≤ (c46).1) ∧ ((c46).1 ≤ (((a0_1).length : Nat) : Int)))) (
                            needs ((((((a0_1).take ((Int.toNat (c46).1)))).length * 8) ≤ 140737488355328) ∧ (((((a0_1).take ((Int.toNat (c46).1)))).length * 1) ≤ 140737488355328)) (
                            needs (((0 : Int) ≤ (IntKind.i64.wrap ((c46).1 + (1 : Int)))) ∧ (((IntKind.i64.wrap ((c46).1 + (1 : Int))) ≤ (((a0_1).length : Nat) : Int)) ∧ ((((a0_1).length : Nat) : Int) ≤ (((a0_1).length : Nat) : Int)))) (
                            needs ((((a0_1).take ((Int.toNat (c46).1)))).length = (((a0_1).take ((Int.toNat (c46).1)))).length) (
                            needs (((((((a0_1).take ((Int.toNat (c46).1))) ++ ((((a0_1).take ((Int.toNat (((a0_1).length : Nat) : Int))))).drop ((Int.toNat (IntKind.i64.wrap ((c46).1 + (1 : Int)))))))).length * 8) ≤ 140737488355328) ∧ ((((((a0_1).take ((Int.toNat (c46).1))) ++ ((((a0_1).take ((Int.toNat (((a0_1).length : Nat) : Int))))).drop ((Int.toNat (IntKind.i64.wrap ((c46).1 + (1 : Int)))))))).length * 1) ≤ 140737488355328)) (
                            c = (((((((a0_0).take ((Int.toNat (c46).1))) ++ ((((a0_0).take ((Int.toNat (((a0_0).length : Nat) : Int))))).drop ((Int.toNat (IntKind.i64.wrap ((c46).1 + (1 : Int)))))))).take (((((a0_0).take ((Int.toNat (c46).1))) ++ ((((a0_0).take ((Int.toNat (((a0_0).length : Nat) : Int))))).drop ((Int.toNat (IntKind.i64.wrap ((c46).1 + (1 : Int)))))))).length)), ((((((a0_1).take ((Int.toNat (c46).1))) ++ ((((a0_1).take ((Int.toNat (((a0_1).length : Nat) : Int))))).drop ((Int.toNat (IntKind.i64.wrap ((c46).1 + (1 : Int)))))))).take (((((a0_1).take ((Int.toNat (c46).1))) ++ ((((a0_1).take ((Int.toNat (((a0_1).length : Nat) : Int))))).drop ((Int.toNat (IntKind.i64.wrap ((c46).1 + (1 : Int)))))))).length)), (a0_2, ()))), ((0 : Int), ()))))))))))))) (
                            cond (decide (((((a0_2).length : Nat) : Int) ≥ (4096 : Int)))) (
                              c = ((a0_0, (a0_1, (a0_2, ()))), ((6 : Int), ()))) (
                              cond ((a1_0 == (2 : Int))) (
                                needs ((0 : Int) ≤ (c47).1) (
                                optAll ((a0_1)[(Int.toNat (c47).1)]?) fun (r58 : List DV) =>
                                optAll ((dInt IntKind.i64 r58 0)) fun (z59 : Int) =>
                                needs ((((a0_0).length * 16) ≤ 140737488355328) ∧ (((a0_0).length * 2) ≤ 140737488355328)) (
                                needs ((a0_0).length = (a0_0).length) (
                                needs (((((a0_0 ++ (([[(DV.v (Value.int IntKind.i64 a1_1)), (DV.v (Value.int IntKind.i64 a1_2))]]).take (1)))).length * 16) ≤ 140737488355328) ∧ ((((a0_0 ++ (([[(DV.v (Value.int IntKind.i64 a1_1)), (DV.v (Value.int IntKind.i64 a1_2))]]).take (1)))).length * 2) ≤ 140737488355328)) (
                                needs ((((a0_1).length * 8) ≤ 140737488355328) ∧ (((a0_1).length * 1) ≤ 140737488355328)) (
                                needs ((a0_1).length = (a0_1).length) (
                                needs (((((a0_1 ++ (([[(DV.v (Value.int IntKind.i64 (((a0_2).length : Nat) : Int)))]]).take (1)))).length * 8) ≤ 140737488355328) ∧ ((((a0_1 ++ (([[(DV.v (Value.int IntKind.i64 (((a0_2).length : Nat) : Int)))]]).take (1)))).length * 1) ≤ 140737488355328)) (
                                needs ((((a0_2).length * 8) ≤ 140737488355328) ∧ (((a0_2).length * 1) ≤ 140737488355328)) (
                                needs ((a0_2).length = (a0_2).length) (
                                needs (((((a0_2 ++ (([[(DV.v (Value.int IntKind.i64 z59))]]).take (1)))).length * 8) ≤ 140737488355328) ∧ ((((a0_2 ++ (([[(DV.v (Value.int IntKind.i64 z59))]]).take (1)))).length * 1) ≤ 140737488355328)) (
                                c = (((((a0_0 ++ (([[(DV.v (Value.int IntKind.i64 a1_1)), (DV.v (Value.int IntKind.i64 a1_2))]]).take (1)))).take (((a0_0 ++ (([[(DV.v (Value.int IntKind.i64 a1_1)), (DV.v (Value.int IntKind.i64 a1_2))]]).take (1)))).length)), ((((a0_1 ++ (([[(DV.v (Value.int IntKind.i64 (((a0_2).length : Nat) : Int)))]]).take (1)))).take (((a0_1 ++ (([[(DV.v (Value.int IntKind.i64 (((a0_2).length : Nat) : Int)))]]).take (1)))).length)), ((((a0_2 ++ (([[(DV.v (Value.int IntKind.i64 z59))]]).take (1)))).take (((a0_2 ++ (([[(DV.v (Value.int IntKind.i64 z59))]]).take (1)))).length)), ()))), ((0 : Int), ()))))))))))))) (
                                needs ((((a0_0).length * 16) ≤ 140737488355328) ∧ (((a0_0).length * 2) ≤ 140737488355328)) (
                                needs ((a0_0).length = (a0_0).length) (
                                needs (((((a0_0 ++ (([[(DV.v (Value.int IntKind.i64 a1_1)), (DV.v (Value.int IntKind.i64 a1_2))]]).take (1)))).length * 16) ≤ 140737488355328) ∧ ((((a0_0 ++ (([[(DV.v (Value.int IntKind.i64 a1_1)), (DV.v (Value.int IntKind.i64 a1_2))]]).take (1)))).length * 2) ≤ 140737488355328)) (
                                needs ((((a0_1).length * 8) ≤ 140737488355328) ∧ (((a0_1).length * 1) ≤ 140737488355328)) (
                                needs ((a0_1).length = (a0_1).length) (
                                needs (((((a0_1 ++ (([[(DV.v (Value.int IntKind.i64 (((a0_2).length : Nat) : Int)))]]).take (1)))).length * 8) ≤ 140737488355328) ∧ ((((a0_1 ++ (([[(DV.v (Value.int IntKind.i64 (((a0_2).length : Nat) : Int)))]]).take (1)))).length * 1) ≤ 140737488355328)) (
                                needs ((((a0_2).length * 8) ≤ 140737488355328) ∧ (((a0_2).length * 1) ≤ 140737488355328)) (
                                needs ((a0_2).length = (a0_2).length) (
                                needs (((((a0_2 ++ (([[(DV.v (Value.int IntKind.i64 (-1 : Int)))]]).take (1)))).length * 8) ≤ 140737488355328) ∧ ((((a0_2 ++ (([[(DV.v (Value.int IntKind.i64 (-1 : Int)))]]).take (1)))).length * 1) ≤ 140737488355328)) (
                                c = (((((a0_0 ++ (([[(DV.v (Value.int IntKind.i64 a1_1)), (DV.v (Value.int IntKind.i64 a1_2))]]).take (1)))).take (((a0_0 ++ (([[(DV.v (Value.int IntKind.i64 a1_1)), (DV.v (Value.int IntKind.i64 a1_2))]]).take (1)))).length)), ((((a0_1 ++ (([[(DV.v (Value.int IntKind.i64 (((a0_2).length : Nat) : Int)))]]).take (1)))).take (((a0_1 ++ (([[(DV.v (Value.int IntKind.i64 (((a0_2).length : Nat) : Int)))]]).take (1)))).length)), ((((a0_2 ++ (([[(DV.v (Value.int IntKind.i64 (-1 : Int)))]]).take (1)))).take (((a0_2 ++ (([[(DV.v (Value.int IntKind.i64 (-1 : Int)))]]).take (1)))).length)), ()))), ((0 : Int), ()))))))))))))))))))) (
                  cond ((a1_0 == (4 : Int))) (
                    cond (decide (((c46).1 < (0 : Int)))) (
                      c = ((a0_0, (a0_1, (a0_2, ()))), ((7 : Int), ()))) (
                      cond ((a1_0 != (4 : Int))) (
                        cond (decide (((c46).1 ≥ (0 : Int)))) (
                          c = ((a0_0, (a0_1, (a0_2, ()))), ((8 : Int), ()))) (
                          cond ((a1_0 == (3 : Int))) (
                            needs ((((a0_0).length * 16) ≤ 140737488355328) ∧ (((a0_0).length * 2) ≤ 140737488355328)) (
                            needs (((0 : Int) ≤ (c47).1) ∧ ((c47).1 < (((a0_0).length : Nat) : Int))) (
                            optAll ((a0_0)[(0 + (Int.toNat (c47).1))]?) fun (r60 : List DV) =>
                            needs (2 ≤ (r60).length) (
                            c = ((((((a0_0).set ((0 + (Int.toNat (c47).1))) (putD r60 0 [(DV.v (Value.int IntKind.i64 a1_1)), (DV.v (Value.int IntKind.i64 a1_2))]))).take ((a0_0).length)), (a0_1, (a0_2, ()))), ((0 : Int), ())))))) (
                            cond ((a1_0 == (4 : Int))) (
                              needs (((0 : Int) ≤ (0 : Int)) ∧ (((0 : Int) ≤ (c46).1) ∧ ((c46).1 ≤ (((a0_0).length : Nat) : Int)))) (
                              needs ((((((a0_0).take ((Int.toNat (c46).1)))).length * 16) ≤ 140737488355328) ∧ (((((a0_0).take ((Int.toNat (c46).1)))).length * 2) ≤ 140737488355328)) (
                              needs (((0 : Int) ≤ (IntKind.i64.wrap ((c46).1 + (1 : Int)))) ∧ (((IntKind.i64.wrap ((c46).1 + (1 : Int))) ≤ (((a0_0).length : Nat) : Int)) ∧ ((((a0_0).length : Nat) : Int) ≤ (((a0_0).length : Nat) : Int)))) (
                              needs ((((a0_0).take ((Int.toNat (c46).1)))).length = (((a0_0).take ((Int.toNat (c46).1)))).length) (
                              needs (((((((a0_0).take ((Int.toNat (c46).1))) ++ ((((a0_0).take ((Int.toNat (((a0_0).length : Nat) : Int))))).drop ((Int.toNat (IntKind.i64.wrap ((c46).1 + (1 : Int)))))))).length * 16) ≤ 140737488355328) ∧ ((((((a0_0).take ((Int.toNat (c46).1))) ++ ((((a0_0).take ((Int.toNat (((a0_0).length : Nat) : Int))))).drop ((Int.toNat (IntKind.i64.wrap ((c46).1 + (1 : Int)))))))).length * 2) ≤ 140737488355328)) (
                              needs (((0 : Int) ≤ (0 : Int)) ∧ (((0 : Int) ≤ (c46).1) ∧ ((c46).1 ≤ (((a0_1).length : Nat) : Int)))) (
                              needs ((((((a0_1).take ((Int.toNat (c46).1)))).length * 8) ≤ 140737488355328) ∧ (((((a0_1).take ((Int.toNat (c46).1)))).length * 1) ≤ 140737488355328)) (
                              needs (((0 : Int) ≤ (IntKind.i64.wrap ((c46).1 + (1 : Int)))) ∧ (((IntKind.i64.wrap ((c46).1 + (1 : Int))) ≤ (((a0_1).length : Nat) : Int)) ∧ ((((a0_1).length : Nat) : Int) ≤ (((a0_1).length : Nat) : Int)))) (
                              needs ((((a0_1).take ((Int.toNat (c46).1)))).length = (((a0_1).take ((Int.toNat (c46).1)))).length) (
                              needs (((((((a0_1).take ((Int.toNat (c46).1))) ++ ((((a0_1).take ((Int.toNat (((a0_1).length : Nat) : Int))))).drop ((Int.toNat (IntKind.i64.wrap ((c46).1 + (1 : Int)))))))).length * 8) ≤ 140737488355328) ∧ ((((((a0_1).take ((Int.toNat (c46).1))) ++ ((((a0_1).take ((Int.toNat (((a0_1).length : Nat) : Int))))).drop ((Int.toNat (IntKind.i64.wrap ((c46).1 + (1 : Int)))))))).length * 1) ≤ 140737488355328)) (
                              c = (((((((a0_0).take ((Int.toNat (c46).1))) ++ ((((a0_0).take ((Int.toNat (((a0_0).length : Nat) : Int))))).drop ((Int.toNat (IntKind.i64.wrap ((c46).1 + (1 : Int)))))))).take (((((a0_0).take ((Int.toNat (c46).1))) ++ ((((a0_0).take ((Int.toNat (((a0_0).length : Nat) : Int))))).drop ((Int.toNat (IntKind.i64.wrap ((c46).1 + (1 : Int)))))))).length)), ((((((a0_1).take ((Int.toNat (c46).1))) ++ ((((a0_1).take ((Int.toNat (((a0_1).length : Nat) : Int))))).drop ((Int.toNat (IntKind.i64.wrap ((c46).1 + (1 : Int)))))))).take (((((a0_1).take ((Int.toNat (c46).1))) ++ ((((a0_1).take ((Int.toNat (((a0_1).length : Nat) : Int))))).drop ((Int.toNat (IntKind.i64.wrap ((c46).1 + (1 : Int)))))))).length)), (a0_2, ()))), ((0 : Int), ()))))))))))))) (
                              cond (decide (((((a0_2).length : Nat) : Int) ≥ (4096 : Int)))) (
                                c = ((a0_0, (a0_1, (a0_2, ()))), ((6 : Int), ()))) (
                                cond ((a1_0 == (2 : Int))) (
                                  needs ((0 : Int) ≤ (c47).1) (
                                  optAll ((a0_1)[(Int.toNat (c47).1)]?) fun (r61 : List DV) =>
                                  optAll ((dInt IntKind.i64 r61 0)) fun (z62 : Int) =>
                                  needs ((((a0_0).length * 16) ≤ 140737488355328) ∧ (((a0_0).length * 2) ≤ 140737488355328)) (
                                  needs ((a0_0).length = (a0_0).length) (
                                  needs (((((a0_0 ++ (([[(DV.v (Value.int IntKind.i64 a1_1)), (DV.v (Value.int IntKind.i64 a1_2))]]).take (1)))).length * 16) ≤ 140737488355328) ∧ ((((a0_0 ++ (([[(DV.v (Value.int IntKind.i64 a1_1)), (DV.v (Value.int IntKind.i64 a1_2))]]).take (1)))).length * 2) ≤ 140737488355328)) (
                                  needs ((((a0_1).length * 8) ≤ 140737488355328) ∧ (((a0_1).length * 1) ≤ 140737488355328)) (
                                  needs ((a0_1).length = (a0_1).length) (
                                  needs (((((a0_1 ++ (([[(DV.v (Value.int IntKind.i64 (((a0_2).length : Nat) : Int)))]]).take (1)))).length * 8) ≤ 140737488355328) ∧ ((((a0_1 ++ (([[(DV.v (Value.int IntKind.i64 (((a0_2).length : Nat) : Int)))]]).take (1)))).length * 1) ≤ 140737488355328)) (
                                  needs ((((a0_2).length * 8) ≤ 140737488355328) ∧ (((a0_2).length * 1) ≤ 140737488355328)) (
                                  needs ((a0_2).length = (a0_2).length) (
                                  needs (((((a0_2 ++ (([[(DV.v (Value.int IntKind.i64 z62))]]).take (1)))).length * 8) ≤ 140737488355328) ∧ ((((a0_2 ++ (([[(DV.v (Value.int IntKind.i64 z62))]]).take (1)))).length * 1) ≤ 140737488355328)) (
                                  c = (((((a0_0 ++ (([[(DV.v (Value.int IntKind.i64 a1_1)), (DV.v (Value.int IntKind.i64 a1_2))]]).take (1)))).take (((a0_0 ++ (([[(DV.v (Value.int IntKind.i64 a1_1)), (DV.v (Value.int IntKind.i64 a1_2))]]).take (1)))).length)), ((((a0_1 ++ (([[(DV.v (Value.int IntKind.i64 (((a0_2).length : Nat) : Int)))]]).take (1)))).take (((a0_1 ++ (([[(DV.v (Value.int IntKind.i64 (((a0_2).length : Nat) : Int)))]]).take (1)))).length)), ((((a0_2 ++ (([[(DV.v (Value.int IntKind.i64 z62))]]).take (1)))).take (((a0_2 ++ (([[(DV.v (Value.int IntKind.i64 z62))]]).take (1)))).length)), ()))), ((0 : Int), ()))))))))))))) (
                                  needs ((((a0_0).length * 16) ≤ 140737488355328) ∧ (((a0_0).length * 2) ≤ 140737488355328)) (
                                  needs ((a0_0).length = (a0_0).length) (
                                  needs (((((a0_0 ++ (([[(DV.v (Value.int IntKind.i64 a1_1)), (DV.v (Value.int IntKind.i64 a1_2))]]).take (1)))).length * 16) ≤ 140737488355328) ∧ ((((a0_0 ++ (([[(DV.v (Value.int IntKind.i64 a1_1)), (DV.v (Value.int IntKind.i64 a1_2))]]).take (1)))).length * 2) ≤ 140737488355328)) (
                                  needs ((((a0_1).length * 8) ≤ 140737488355328) ∧ (((a0_1).length * 1) ≤ 140737488355328)) (
                                  needs ((a0_1).length = (a0_1).length) (
                                  needs (((((a0_1 ++ (([[(DV.v (Value.int IntKind.i64 (((a0_2).length : Nat) : Int)))]]).take (1)))).length * 8) ≤ 140737488355328) ∧ ((((a0_1 ++ (([[(DV.v (Value.int IntKind.i64 (((a0_2).length : Nat) : Int)))]]).take (1)))).length * 1) ≤ 140737488355328)) (
                                  needs ((((a0_2).length * 8) ≤ 140737488355328) ∧ (((a0_2).length * 1) ≤ 140737488355328)) (
                                  needs ((a0_2).length = (a0_2).length) (
                                  needs (((((a0_2 ++ (([[(DV.v (Value.int IntKind.i64 (-1 : Int)))]]).take (1)))).length * 8) ≤ 140737488355328) ∧ ((((a0_2 ++ (([[(DV.v (Value.int IntKind.i64 (-1 : Int)))]]).take (1)))).length * 1) ≤ 140737488355328)) (
                                  c = (((((a0_0 ++ (([[(DV.v (Value.int IntKind.i64 a1_1)), (DV.v (Value.int IntKind.i64 a1_2))]]).take (1)))).take (((a0_0 ++ (([[(DV.v (Value.int IntKind.i64 a1_1)), (DV.v (Value.int IntKind.i64 a1_2))]]).take (1)))).length)), ((((a0_1 ++ (([[(DV.v (Value.int IntKind.i64 (((a0_2).length : Nat) : Int)))]]).take (1)))).take (((a0_1 ++ (([[(DV.v (Value.int IntKind.i64 (((a0_2).length : Nat) : Int)))]]).take (1)))).length)), ((((a0_2 ++ (([[(DV.v (Value.int IntKind.i64 (-1 : Int)))]]).take (1)))).take (((a0_2 ++ (([[(DV.v (Value.int IntKind.i64 (-1 : Int)))]]).take (1)))).length)), ()))), ((0 : Int), ()))))))))))))))))) (
                        cond ((a1_0 == (3 : Int))) (
                          needs ((((a0_0).length * 16) ≤ 140737488355328) ∧ (((a0_0).length * 2) ≤ 140737488355328)) (
                          needs (((0 : Int) ≤ (c47).1) ∧ ((c47).1 < (((a0_0).length : Nat) : Int))) (
                          optAll ((a0_0)[(0 + (Int.toNat (c47).1))]?) fun (r63 : List DV) =>
                          needs (2 ≤ (r63).length) (
                          c = ((((((a0_0).set ((0 + (Int.toNat (c47).1))) (putD r63 0 [(DV.v (Value.int IntKind.i64 a1_1)), (DV.v (Value.int IntKind.i64 a1_2))]))).take ((a0_0).length)), (a0_1, (a0_2, ()))), ((0 : Int), ())))))) (
                          cond ((a1_0 == (4 : Int))) (
                            needs (((0 : Int) ≤ (0 : Int)) ∧ (((0 : Int) ≤ (c46).1) ∧ ((c46).1 ≤ (((a0_0).length : Nat) : Int)))) (
                            needs ((((((a0_0).take ((Int.toNat (c46).1)))).length * 16) ≤ 140737488355328) ∧ (((((a0_0).take ((Int.toNat (c46).1)))).length * 2) ≤ 140737488355328)) (
                            needs (((0 : Int) ≤ (IntKind.i64.wrap ((c46).1 + (1 : Int)))) ∧ (((IntKind.i64.wrap ((c46).1 + (1 : Int))) ≤ (((a0_0).length : Nat) : Int)) ∧ ((((a0_0).length : Nat) : Int) ≤ (((a0_0).length : Nat) : Int)))) (
                            needs ((((a0_0).take ((Int.toNat (c46).1)))).length = (((a0_0).take ((Int.toNat (c46).1)))).length) (
                            needs (((((((a0_0).take ((Int.toNat (c46).1))) ++ ((((a0_0).take ((Int.toNat (((a0_0).length : Nat) : Int))))).drop ((Int.toNat (IntKind.i64.wrap ((c46).1 + (1 : Int)))))))).length * 16) ≤ 140737488355328) ∧ ((((((a0_0).take ((Int.toNat (c46).1))) ++ ((((a0_0).take ((Int.toNat (((a0_0).length : Nat) : Int))))).drop ((Int.toNat (IntKind.i64.wrap ((c46).1 + (1 : Int)))))))).length * 2) ≤ 140737488355328)) (
                            needs (((0 : Int) ≤ (0 : Int)) ∧ (((0 : Int) ≤ (c46).1) ∧ ((c46).1 ≤ (((a0_1).length : Nat) : Int)))) (
                            needs ((((((a0_1).take ((Int.toNat (c46).1)))).length * 8) ≤ 140737488355328) ∧ (((((a0_1).take ((Int.toNat (c46).1)))).length * 1) ≤ 140737488355328)) (
                            needs (((0 : Int) ≤ (IntKind.i64.wrap ((c46).1 + (1 : Int)))) ∧ (((IntKind.i64.wrap ((c46).1 + (1 : Int))) ≤ (((a0_1).length : Nat) : Int)) ∧ ((((a0_1).length : Nat) : Int) ≤ (((a0_1).length : Nat) : Int)))) (
                            needs ((((a0_1).take ((Int.toNat (c46).1)))).length = (((a0_1).take ((Int.toNat (c46).1)))).length) (
                            needs (((((((a0_1).take ((Int.toNat (c46).1))) ++ ((((a0_1).take ((Int.toNat (((a0_1).length : Nat) : Int))))).drop ((Int.toNat (IntKind.i64.wrap ((c46).1 + (1 : Int)))))))).length * 8) ≤ 140737488355328) ∧ ((((((a0_1).take ((Int.toNat (c46).1))) ++ ((((a0_1).take ((Int.toNat (((a0_1).length : Nat) : Int))))).drop ((Int.toNat (IntKind.i64.wrap ((c46).1 + (1 : Int)))))))).length * 1) ≤ 140737488355328)) (
                            c = (((((((a0_0).take ((Int.toNat (c46).1))) ++ ((((a0_0).take ((Int.toNat (((a0_0).length : Nat) : Int))))).drop ((Int.toNat (IntKind.i64.wrap ((c46).1 + (1 : Int)))))))).take (((((a0_0).take ((Int.toNat (c46).1))) ++ ((((a0_0).take ((Int.toNat (((a0_0).length : Nat) : Int))))).drop ((Int.toNat (IntKind.i64.wrap ((c46).1 + (1 : Int)))))))).length)), ((((((a0_1).take ((Int.toNat (c46).1))) ++ ((((a0_1).take ((Int.toNat (((a0_1).length : Nat) : Int))))).drop ((Int.toNat (IntKind.i64.wrap ((c46).1 + (1 : Int)))))))).take (((((a0_1).take ((Int.toNat (c46).1))) ++ ((((a0_1).take ((Int.toNat (((a0_1).length : Nat) : Int))))).drop ((Int.toNat (IntKind.i64.wrap ((c46).1 + (1 : Int)))))))).length)), (a0_2, ()))), ((0 : Int), ()))))))))))))) (
                            cond (decide (((((a0_2).length : Nat) : Int) ≥ (4096 : Int)))) (
                              c = ((a0_0, (a0_1, (a0_2, ()))), ((6 : Int), ()))) (
                              cond ((a1_0 == (2 : Int))) (
                                needs ((0 : Int) ≤ (c47).1) (
                                optAll ((a0_1)[(Int.toNat (c47).1)]?) fun (r64 : List DV) =>
                                optAll ((dInt IntKind.i64 r64 0)) fun (z65 : Int) =>
                                needs ((((a0_0).length * 16) ≤ 140737488355328) ∧ (((a0_0).length * 2) ≤ 140737488355328)) (
                                needs ((a0_0).length = (a0_0).length) (
                                needs (((((a0_0 ++ (([[(DV.v (Value.int IntKind.i64 a1_1)), (DV.v (Value.int IntKind.i64 a1_2))]]).take (1)))).length * 16) ≤ 140737488355328) ∧ ((((a0_0 ++ (([[(DV.v (Value.int IntKind.i64 a1_1)), (DV.v (Value.int IntKind.i64 a1_2))]]).take (1)))).length * 2) ≤ 140737488355328)) (
                                needs ((((a0_1).length * 8) ≤ 140737488355328) ∧ (((a0_1).length * 1) ≤ 140737488355328)) (
                                needs ((a0_1).length = (a0_1).length) (
                                needs (((((a0_1 ++ (([[(DV.v (Value.int IntKind.i64 (((a0_2).length : Nat) : Int)))]]).take (1)))).length * 8) ≤ 140737488355328) ∧ ((((a0_1 ++ (([[(DV.v (Value.int IntKind.i64 (((a0_2).length : Nat) : Int)))]]).take (1)))).length * 1) ≤ 140737488355328)) (
                                needs ((((a0_2).length * 8) ≤ 140737488355328) ∧ (((a0_2).length * 1) ≤ 140737488355328)) (
                                needs ((a0_2).length = (a0_2).length) (
                                needs (((((a0_2 ++ (([[(DV.v (Value.int IntKind.i64 z65))]]).take (1)))).length * 8) ≤ 140737488355328) ∧ ((((a0_2 ++ (([[(DV.v (Value.int IntKind.i64 z65))]]).take (1)))).length * 1) ≤ 140737488355328)) (
                                c = (((((a0_0 ++ (([[(DV.v (Value.int IntKind.i64 a1_1)), (DV.v (Value.int IntKind.i64 a1_2))]]).take (1)))).take (((a0_0 ++ (([[(DV.v (Value.int IntKind.i64 a1_1)), (DV.v (Value.int IntKind.i64 a1_2))]]).take (1)))).length)), ((((a0_1 ++ (([[(DV.v (Value.int IntKind.i64 (((a0_2).length : Nat) : Int)))]]).take (1)))).take (((a0_1 ++ (([[(DV.v (Value.int IntKind.i64 (((a0_2).length : Nat) : Int)))]]).take (1)))).length)), ((((a0_2 ++ (([[(DV.v (Value.int IntKind.i64 z65))]]).take (1)))).take (((a0_2 ++ (([[(DV.v (Value.int IntKind.i64 z65))]]).take (1)))).length)), ()))), ((0 : Int), ()))))))))))))) (
                                needs ((((a0_0).length * 16) ≤ 140737488355328) ∧ (((a0_0).length * 2) ≤ 140737488355328)) (
                                needs ((a0_0).length = (a0_0).length) (
                                needs (((((a0_0 ++ (([[(DV.v (Value.int IntKind.i64 a1_1)), (DV.v (Value.int IntKind.i64 a1_2))]]).take (1)))).length * 16) ≤ 140737488355328) ∧ ((((a0_0 ++ (([[(DV.v (Value.int IntKind.i64 a1_1)), (DV.v (Value.int IntKind.i64 a1_2))]]).take (1)))).length * 2) ≤ 140737488355328)) (
                                needs ((((a0_1).length * 8) ≤ 140737488355328) ∧ (((a0_1).length * 1) ≤ 140737488355328)) (
                                needs ((a0_1).length = (a0_1).length) (
                                needs (((((a0_1 ++ (([[(DV.v (Value.int IntKind.i64 (((a0_2).length : Nat) : Int)))]]).take (1)))).length * 8) ≤ 140737488355328) ∧ ((((a0_1 ++ (([[(DV.v (Value.int IntKind.i64 (((a0_2).length : Nat) : Int)))]]).take (1)))).length * 1) ≤ 140737488355328)) (
                                needs ((((a0_2).length * 8) ≤ 140737488355328) ∧ (((a0_2).length * 1) ≤ 140737488355328)) (
                                needs ((a0_2).length = (a0_2).length) (
                                needs (((((a0_2 ++ (([[(DV.v (Value.int IntKind.i64 (-1 : Int)))]]).take (1)))).length * 8) ≤ 140737488355328) ∧ ((((a0_2 ++ (([[(DV.v (Value.int IntKind.i64 (-1 : Int)))]]).take (1)))).length * 1) ≤ 140737488355328)) (
                                c = (((((a0_0 ++ (([[(DV.v (Value.int IntKind.i64 a1_1)), (DV.v (Value.int IntKind.i64 a1_2))]]).take (1)))).take (((a0_0 ++ (([[(DV.v (Value.int IntKind.i64 a1_1)), (DV.v (Value.int IntKind.i64 a1_2))]]).take (1)))).length)), ((((a0_1 ++ (([[(DV.v (Value.int IntKind.i64 (((a0_2).length : Nat) : Int)))]]).take (1)))).take (((a0_1 ++ (([[(DV.v (Value.int IntKind.i64 (((a0_2).length : Nat) : Int)))]]).take (1)))).length)), ((((a0_2 ++ (([[(DV.v (Value.int IntKind.i64 (-1 : Int)))]]).take (1)))).take (((a0_2 ++ (([[(DV.v (Value.int IntKind.i64 (-1 : Int)))]]).take (1)))).length)), ()))), ((0 : Int), ())))))))))))))))))) (
                    cond ((a1_0 != (4 : Int))) (
                      cond (decide (((c46).1 ≥ (0 : Int)))) (
                        c = ((a0_0, (a0_1, (a0_2, ()))), ((8 : Int), ()))) (
                        cond ((a1_0 == (3 : Int))) (
                          needs ((((a0_0).length * 16) ≤ 140737488355328) ∧ (((a0_0).length * 2) ≤ 140737488355328)) (
                          needs (((0 : Int) ≤ (c47).1) ∧ ((c47).1 < (((a0_0).length : Nat) : Int))) (
                          optAll ((a0_0)[(0 + (Int.toNat (c47).1))]?) fun (r66 : List DV) =>
                          needs (2 ≤ (r66).length) (
                          c = ((((((a0_0).set ((0 + (Int.toNat (c47).1))) (putD r66 0 [(DV.v (Value.int IntKind.i64 a1_1)), (DV.v (Value.int IntKind.i64 a1_2))]))).take ((a0_0).length)), (a0_1, (a0_2, ()))), ((0 : Int), ())))))) (
                          cond ((a1_0 == (4 : Int))) (
                            needs (((0 : Int) ≤ (0 : Int)) ∧ (((0 : Int) ≤ (c46).1) ∧ ((c46).1 ≤ (((a0_0).length : Nat) : Int)))) (
                            needs ((((((a0_0).take ((Int.toNat (c46).1)))).length * 16) ≤ 140737488355328) ∧ (((((a0_0).take ((Int.toNat (c46).1)))).length * 2) ≤ 140737488355328)) (
                            needs (((0 : Int) ≤ (IntKind.i64.wrap ((c46).1 + (1 : Int)))) ∧ (((IntKind.i64.wrap ((c46).1 + (1 : Int))) ≤ (((a0_0).length : Nat) : Int)) ∧ ((((a0_0).length : Nat) : Int) ≤ (((a0_0).length : Nat) : Int)))) (
                            needs ((((a0_0).take ((Int.toNat (c46).1)))).length = (((a0_0).take ((Int.toNat (c46).1)))).length) (
                            needs (((((((a0_0).take ((Int.toNat (c46).1))) ++ ((((a0_0).take ((Int.toNat (((a0_0).length : Nat) : Int))))).drop ((Int.toNat (IntKind.i64.wrap ((c46).1 + (1 : Int)))))))).length * 16) ≤ 140737488355328) ∧ ((((((a0_0).take ((Int.toNat (c46).1))) ++ ((((a0_0).take ((Int.toNat (((a0_0).length : Nat) : Int))))).drop ((Int.toNat (IntKind.i64.wrap ((c46).1 + (1 : Int)))))))).length * 2) ≤ 140737488355328)) (
                            needs (((0 : Int) ≤ (0 : Int)) ∧ (((0 : Int) ≤ (c46).1) ∧ ((c46).1 ≤ (((a0_1).length : Nat) : Int)))) (
                            needs ((((((a0_1).take ((Int.toNat (c46).1)))).length * 8) ≤ 140737488355328) ∧ (((((a0_1).take ((Int.toNat (c46).1)))).length * 1) ≤ 140737488355328)) (
                            needs (((0 : Int) ≤ (IntKind.i64.wrap ((c46).1 + (1 : Int)))) ∧ (((IntKind.i64.wrap ((c46).1 + (1 : Int))) ≤ (((a0_1).length : Nat) : Int)) ∧ ((((a0_1).length : Nat) : Int) ≤ (((a0_1).length : Nat) : Int)))) (
                            needs ((((a0_1).take ((Int.toNat (c46).1)))).length = (((a0_1).take ((Int.toNat (c46).1)))).length) (
                            needs (((((((a0_1).take ((Int.toNat (c46).1))) ++ ((((a0_1).take ((Int.toNat (((a0_1).length : Nat) : Int))))).drop ((Int.toNat (IntKind.i64.wrap ((c46).1 + (1 : Int)))))))).length * 8) ≤ 140737488355328) ∧ ((((((a0_1).take ((Int.toNat (c46).1))) ++ ((((a0_1).take ((Int.toNat (((a0_1).length : Nat) : Int))))).drop ((Int.toNat (IntKind.i64.wrap ((c46).1 + (1 : Int)))))))).length * 1) ≤ 140737488355328)) (
                            c = (((((((a0_0).take ((Int.toNat (c46).1))) ++ ((((a0_0).take ((Int.toNat (((a0_0).length : Nat) : Int))))).drop ((Int.toNat (IntKind.i64.wrap ((c46).1 + (1 : Int)))))))).take (((((a0_0).take ((Int.toNat (c46).1))) ++ ((((a0_0).take ((Int.toNat (((a0_0).length : Nat) : Int))))).drop ((Int.toNat (IntKind.i64.wrap ((c46).1 + (1 : Int)))))))).length)), ((((((a0_1).take ((Int.toNat (c46).1))) ++ ((((a0_1).take ((Int.toNat (((a0_1).length : Nat) : Int))))).drop ((Int.toNat (IntKind.i64.wrap ((c46).1 + (1 : Int)))))))).take (((((a0_1).take ((Int.toNat (c46).1))) ++ ((((a0_1).take ((Int.toNat (((a0_1).length : Nat) : Int))))).drop ((Int.toNat (IntKind.i64.wrap ((c46).1 + (1 : Int)))))))).length)), (a0_2, ()))), ((0 : Int), ()))))))))))))) (
                            cond (decide (((((a0_2).length : Nat) : Int) ≥ (4096 : Int)))) (
                              c = ((a0_0, (a0_1, (a0_2, ()))), ((6 : Int), ()))) (
                              cond ((a1_0 == (2 : Int))) (
                                needs ((0 : Int) ≤ (c47).1) (
                                optAll ((a0_1)[(Int.toNat (c47).1)]?) fun (r67 : List DV) =>
                                optAll ((dInt IntKind.i64 r67 0)) fun (z68 : Int) =>
                                needs ((((a0_0).length * 16) ≤ 140737488355328) ∧ (((a0_0).length * 2) ≤ 140737488355328)) (
                                needs ((a0_0).length = (a0_0).length) (
                                needs (((((a0_0 ++ (([[(DV.v (Value.int IntKind.i64 a1_1)), (DV.v (Value.int IntKind.i64 a1_2))]]).take (1)))).length * 16) ≤ 140737488355328) ∧ ((((a0_0 ++ (([[(DV.v (Value.int IntKind.i64 a1_1)), (DV.v (Value.int IntKind.i64 a1_2))]]).take (1)))).length * 2) ≤ 140737488355328)) (
                                needs ((((a0_1).length * 8) ≤ 140737488355328) ∧ (((a0_1).length * 1) ≤ 140737488355328)) (
                                needs ((a0_1).length = (a0_1).length) (
                                needs (((((a0_1 ++ (([[(DV.v (Value.int IntKind.i64 (((a0_2).length : Nat) : Int)))]]).take (1)))).length * 8) ≤ 140737488355328) ∧ ((((a0_1 ++ (([[(DV.v (Value.int IntKind.i64 (((a0_2).length : Nat) : Int)))]]).take (1)))).length * 1) ≤ 140737488355328)) (
                                needs ((((a0_2).length * 8) ≤ 140737488355328) ∧ (((a0_2).length * 1) ≤ 140737488355328)) (
                                needs ((a0_2).length = (a0_2).length) (
                                needs (((((a0_2 ++ (([[(DV.v (Value.int IntKind.i64 z68))]]).take (1)))).length * 8) ≤ 140737488355328) ∧ ((((a0_2 ++ (([[(DV.v (Value.int IntKind.i64 z68))]]).take (1)))).length * 1) ≤ 140737488355328)) (
                                c = (((((a0_0 ++ (([[(DV.v (Value.int IntKind.i64 a1_1)), (DV.v (Value.int IntKind.i64 a1_2))]]).take (1)))).take (((a0_0 ++ (([[(DV.v (Value.int IntKind.i64 a1_1)), (DV.v (Value.int IntKind.i64 a1_2))]]).take (1)))).length)), ((((a0_1 ++ (([[(DV.v (Value.int IntKind.i64 (((a0_2).length : Nat) : Int)))]]).take (1)))).take (((a0_1 ++ (([[(DV.v (Value.int IntKind.i64 (((a0_2).length : Nat) : Int)))]]).take (1)))).length)), ((((a0_2 ++ (([[(DV.v (Value.int IntKind.i64 z68))]]).take (1)))).take (((a0_2 ++ (([[(DV.v (Value.int IntKind.i64 z68))]]).take (1)))).length)), ()))), ((0 : Int), ()))))))))))))) (
                                needs ((((a0_0).length * 16) ≤ 140737488355328) ∧ (((a0_0).length * 2) ≤ 140737488355328)) (
                                needs ((a0_0).length = (a0_0).length) (
                                needs (((((a0_0 ++ (([[(DV.v (Value.int IntKind.i64 a1_1)), (DV.v (Value.int IntKind.i64 a1_2))]]).take (1)))).length * 16) ≤ 140737488355328) ∧ ((((a0_0 ++ (([[(DV.v (Value.int IntKind.i64 a1_1)), (DV.v (Value.int IntKind.i64 a1_2))]]).take (1)))).length * 2) ≤ 140737488355328)) (
                                needs ((((a0_1).length * 8) ≤ 140737488355328) ∧ (((a0_1).length * 1) ≤ 140737488355328)) (
                                needs ((a0_1).length = (a0_1).length) (
                                needs (((((a0_1 ++ (([[(DV.v (Value.int IntKind.i64 (((a0_2).length : Nat) : Int)))]]).take (1)))).length * 8) ≤ 140737488355328) ∧ ((((a0_1 ++ (([[(DV.v (Value.int IntKind.i64 (((a0_2).length : Nat) : Int)))]]).take (1)))).length * 1) ≤ 140737488355328)) (
                                needs ((((a0_2).length * 8) ≤ 140737488355328) ∧ (((a0_2).length * 1) ≤ 140737488355328)) (
                                needs ((a0_2).length = (a0_2).length) (
                                needs (((((a0_2 ++ (([[(DV.v (Value.int IntKind.i64 (-1 : Int)))]]).take (1)))).length * 8) ≤ 140737488355328) ∧ ((((a0_2 ++ (([[(DV.v (Value.int IntKind.i64 (-1 : Int)))]]).take (1)))).length * 1) ≤ 140737488355328)) (
                                c = (((((a0_0 ++ (([[(DV.v (Value.int IntKind.i64 a1_1)), (DV.v (Value.int IntKind.i64 a1_2))]]).take (1)))).take (((a0_0 ++ (([[(DV.v (Value.int IntKind.i64 a1_1)), (DV.v (Value.int IntKind.i64 a1_2))]]).take (1)))).length)), ((((a0_1 ++ (([[(DV.v (Value.int IntKind.i64 (((a0_2).length : Nat) : Int)))]]).take (1)))).take (((a0_1 ++ (([[(DV.v (Value.int IntKind.i64 (((a0_2).length : Nat) : Int)))]]).take (1)))).length)), ((((a0_2 ++ (([[(DV.v (Value.int IntKind.i64 (-1 : Int)))]]).take (1)))).take (((a0_2 ++ (([[(DV.v (Value.int IntKind.i64 (-1 : Int)))]]).take (1)))).length)), ()))), ((0 : Int), ()))))))))))))))))) (
                      cond ((a1_0 == (3 : Int))) (
                        needs ((((a0_0).length * 16) ≤ 140737488355328) ∧ (((a0_0).length * 2) ≤ 140737488355328)) (
                        needs (((0 : Int) ≤ (c47).1) ∧ ((c47).1 < (((a0_0).length : Nat) : Int))) (
                        optAll ((a0_0)[(0 + (Int.toNat (c47).1))]?) fun (r69 : List DV) =>
                        needs (2 ≤ (r69).length) (
                        c = ((((((a0_0).set ((0 + (Int.toNat (c47).1))) (putD r69 0 [(DV.v (Value.int IntKind.i64 a1_1)), (DV.v (Value.int IntKind.i64 a1_2))]))).take ((a0_0).length)), (a0_1, (a0_2, ()))), ((0 : Int), ())))))) (
                        cond ((a1_0 == (4 : Int))) (
                          needs (((0 : Int) ≤ (0 : Int)) ∧ (((0 : Int) ≤ (c46).1) ∧ ((c46).1 ≤ (((a0_0).length : Nat) : Int)))) (
                          needs ((((((a0_0).take ((Int.toNat (c46).1)))).length * 16) ≤ 140737488355328) ∧ (((((a0_0).take ((Int.toNat (c46).1)))).length * 2) ≤ 140737488355328)) (
                          needs (((0 : Int) ≤ (IntKind.i64.wrap ((c46).1 + (1 : Int)))) ∧ (((IntKind.i64.wrap ((c46).1 + (1 : Int))) ≤ (((a0_0).length : Nat) : Int)) ∧ ((((a0_0).length : Nat) : Int) ≤ (((a0_0).length : Nat) : Int)))) (
                          needs ((((a0_0).take ((Int.toNat (c46).1)))).length = (((a0_0).take ((Int.toNat (c46).1)))).length) (
                          needs (((((((a0_0).take ((Int.toNat (c46).1))) ++ ((((a0_0).take ((Int.toNat (((a0_0).length : Nat) : Int))))).drop ((Int.toNat (IntKind.i64.wrap ((c46).1 + (1 : Int)))))))).length * 16) ≤ 140737488355328) ∧ ((((((a0_0).take ((Int.toNat (c46).1))) ++ ((((a0_0).take ((Int.toNat (((a0_0).length : Nat) : Int))))).drop ((Int.toNat (IntKind.i64.wrap ((c46).1 + (1 : Int)))))))).length * 2) ≤ 140737488355328)) (
                          needs (((0 : Int) ≤ (0 : Int)) ∧ (((0 : Int) ≤ (c46).1) ∧ ((c46).1 ≤ (((a0_1).length : Nat) : Int)))) (
                          needs ((((((a0_1).take ((Int.toNat (c46).1)))).length * 8) ≤ 140737488355328) ∧ (((((a0_1).take ((Int.toNat (c46).1)))).length * 1) ≤ 140737488355328)) (
                          needs (((0 : Int) ≤ (IntKind.i64.wrap ((c46).1 + (1 : Int)))) ∧ (((IntKind.i64.wrap ((c46).1 + (1 : Int))) ≤ (((a0_1).length : Nat) : Int)) ∧ ((((a0_1).length : Nat) : Int) ≤ (((a0_1).length : Nat) : Int)))) (
                          needs ((((a0_1).take ((Int.toNat (c46).1)))).length = (((a0_1).take ((Int.toNat (c46).1)))).length) (
                          needs (((((((a0_1).take ((Int.toNat (c46).1))) ++ ((((a0_1).take ((Int.toNat (((a0_1).length : Nat) : Int))))).drop ((Int.toNat (IntKind.i64.wrap ((c46).1 + (1 : Int)))))))).length * 8) ≤ 140737488355328) ∧ ((((((a0_1).take ((Int.toNat (c46).1))) ++ ((((a0_1).take ((Int.toNat (((a0_1).length : Nat) : Int))))).drop ((Int.toNat (IntKind.i64.wrap ((c46).1 + (1 : Int)))))))).length * 1) ≤ 140737488355328)) (
                          c = (((((((a0_0).take ((Int.toNat (c46).1))) ++ ((((a0_0).take ((Int.toNat (((a0_0).length : Nat) : Int))))).drop ((Int.toNat (IntKind.i64.wrap ((c46).1 + (1 : Int)))))))).take (((((a0_0).take ((Int.toNat (c46).1))) ++ ((((a0_0).take ((Int.toNat (((a0_0).length : Nat) : Int))))).drop ((Int.toNat (IntKind.i64.wrap ((c46).1 + (1 : Int)))))))).length)), ((((((a0_1).take ((Int.toNat (c46).1))) ++ ((((a0_1).take ((Int.toNat (((a0_1).length : Nat) : Int))))).drop ((Int.toNat (IntKind.i64.wrap ((c46).1 + (1 : Int)))))))).take (((((a0_1).take ((Int.toNat (c46).1))) ++ ((((a0_1).take ((Int.toNat (((a0_1).length : Nat) : Int))))).drop ((Int.toNat (IntKind.i64.wrap ((c46).1 + (1 : Int)))))))).length)), (a0_2, ()))), ((0 : Int), ()))))))))))))) (
                          cond (decide (((((a0_2).length : Nat) : Int) ≥ (4096 : Int)))) (
                            c = ((a0_0, (a0_1, (a0_2, ()))), ((6 : Int), ()))) (
                            cond ((a1_0 == (2 : Int))) (
                              needs ((0 : Int) ≤ (c47).1) (
                              optAll ((a0_1)[(Int.toNat (c47).1)]?) fun (r70 : List DV) =>
                              optAll ((dInt IntKind.i64 r70 0)) fun (z71 : Int) =>
                              needs ((((a0_0).length * 16) ≤ 140737488355328) ∧ (((a0_0).length * 2) ≤ 140737488355328)) (
                              needs ((a0_0).length = (a0_0).length) (
                              needs (((((a0_0 ++ (([[(DV.v (Value.int IntKind.i64 a1_1)), (DV.v (Value.int IntKind.i64 a1_2))]]).take (1)))).length * 16) ≤ 140737488355328) ∧ ((((a0_0 ++ (([[(DV.v (Value.int IntKind.i64 a1_1)), (DV.v (Value.int IntKind.i64 a1_2))]]).take (1)))).length * 2) ≤ 140737488355328)) (
                              needs ((((a0_1).length * 8) ≤ 140737488355328) ∧ (((a0_1).length * 1) ≤ 140737488355328)) (
                              needs ((a0_1).length = (a0_1).length) (
                              needs (((((a0_1 ++ (([[(DV.v (Value.int IntKind.i64 (((a0_2).length : Nat) : Int)))]]).take (1)))).length * 8) ≤ 140737488355328) ∧ ((((a0_1 ++ (([[(DV.v (Value.int IntKind.i64 (((a0_2).length : Nat) : Int)))]]).take (1)))).length * 1) ≤ 140737488355328)) (
                              needs ((((a0_2).length * 8) ≤ 140737488355328) ∧ (((a0_2).length * 1) ≤ 140737488355328)) (
                              needs ((a0_2).length = (a0_2).length) (
                              needs (((((a0_2 ++ (([[(DV.v (Value.int IntKind.i64 z71))]]).take (1)))).length * 8) ≤ 140737488355328) ∧ ((((a0_2 ++ (([[(DV.v (Value.int IntKind.i64 z71))]]).take (1)))).length * 1) ≤ 140737488355328)) (
                              c = (((((a0_0 ++ (([[(DV.v (Value.int IntKind.i64 a1_1)), (DV.v (Value.int IntKind.i64 a1_2))]]).take (1)))).take (((a0_0 ++ (([[(DV.v (Value.int IntKind.i64 a1_1)), (DV.v (Value.int IntKind.i64 a1_2))]]).take (1)))).length)), ((((a0_1 ++ (([[(DV.v (Value.int IntKind.i64 (((a0_2).length : Nat) : Int)))]]).take (1)))).take (((a0_1 ++ (([[(DV.v (Value.int IntKind.i64 (((a0_2).length : Nat) : Int)))]]).take (1)))).length)), ((((a0_2 ++ (([[(DV.v (Value.int IntKind.i64 z71))]]).take (1)))).take (((a0_2 ++ (([[(DV.v (Value.int IntKind.i64 z71))]]).take (1)))).length)), ()))), ((0 : Int), ()))))))))))))) (
                              needs ((((a0_0).length * 16) ≤ 140737488355328) ∧ (((a0_0).length * 2) ≤ 140737488355328)) (
                              needs ((a0_0).length = (a0_0).length) (
                              needs (((((a0_0 ++ (([[(DV.v (Value.int IntKind.i64 a1_1)), (DV.v (Value.int IntKind.i64 a1_2))]]).take (1)))).length * 16) ≤ 140737488355328) ∧ ((((a0_0 ++ (([[(DV.v (Value.int IntKind.i64 a1_1)), (DV.v (Value.int IntKind.i64 a1_2))]]).take (1)))).length * 2) ≤ 140737488355328)) (
                              needs ((((a0_1).length * 8) ≤ 140737488355328) ∧ (((a0_1).length * 1) ≤ 140737488355328)) (
                              needs ((a0_1).length = (a0_1).length) (
                              needs (((((a0_1 ++ (([[(DV.v (Value.int IntKind.i64 (((a0_2).length : Nat) : Int)))]]).take (1)))).length * 8) ≤ 140737488355328) ∧ ((((a0_1 ++ (([[(DV.v (Value.int IntKind.i64 (((a0_2).length : Nat) : Int)))]]).take (1)))).length * 1) ≤ 140737488355328)) (
                              needs ((((a0_2).length * 8) ≤ 140737488355328) ∧ (((a0_2).length * 1) ≤ 140737488355328)) (
                              needs ((a0_2).length = (a0_2).length) (
                              needs (((((a0_2 ++ (([[(DV.v (Value.int IntKind.i64 (-1 : Int)))]]).take (1)))).length * 8) ≤ 140737488355328) ∧ ((((a0_2 ++ (([[(DV.v (Value.int IntKind.i64 (-1 : Int)))]]).take (1)))).length * 1) ≤ 140737488355328)) (
                              c = (((((a0_0 ++ (([[(DV.v (Value.int IntKind.i64 a1_1)), (DV.v (Value.int IntKind.i64 a1_2))]]).take (1)))).take (((a0_0 ++ (([[(DV.v (Value.int IntKind.i64 a1_1)), (DV.v (Value.int IntKind.i64 a1_2))]]).take (1)))).length)), ((((a0_1 ++ (([[(DV.v (Value.int IntKind.i64 (((a0_2).length : Nat) : Int)))]]).take (1)))).take (((a0_1 ++ (([[(DV.v (Value.int IntKind.i64 (((a0_2).length : Nat) : Int)))]]).take (1)))).length)), ((((a0_2 ++ (([[(DV.v (Value.int IntKind.i64 (-1 : Int)))]]).take (1)))).take (((a0_2 ++ (([[(DV.v (Value.int IntKind.i64 (-1 : Int)))]]).take (1)))).length)), ()))), ((0 : Int), ()))))))))))))))))))))))))) : R a0_0 a0_1 a0_2 a1_0 a1_1 a1_2 a1_3 a1_4 = some c := start_rule (n := 400) (lv := lv) (noSum_ok _) (by kernel_rfl) h
end ref14_Add
/-! garrison/garrisonref14.Same -/
namespace ref14_Same
def lv : Live := []
theorem start (a0_0 : List (List DV)) (a0_1 : List (List DV)) (a0_2 : List (List DV)) (a1_0 : List (List DV)) (a1_1 : List (List DV)) (a1_2 : List (List DV)) (c : (Bool × Unit)) (h :
    optAll (ref06_Same.R a0_0 a1_0) fun (c0 : (Bool × Unit)) =>
    cond ((c0).1) (
      optAll (ref07_Ints.R a0_1 a1_1) fun (c1 : (Bool × Unit)) =>
      cond ((c1).1) (
        optAll (ref07_Ints.R a0_2 a1_2) fun (c2 : (Bool × Unit)) =>
        c = ((c2).1, ())) (
        c = (false, ()))) (
      c = (false, ()))) : R a0_0 a0_1 a0_2 a1_0 a1_1 a1_2 = some c := start_rule (n := 400) (lv := lv) (noSum_ok _) (by kernel_rfl) h
end ref14_Same
/-! garrison/garrisonlaw14.num -/
namespace law14_num
def lv : Live := []
theorem start (a0 : Int) (c : (Int × Unit)) (h :
    c = (a0, ())) : R a0 = some c := start_rule (n := 400) (lv := lv) (noSum_ok _) (by kernel_rfl) h
end law14_num
/-! garrison/ghost.Check -/
namespace ghost_Check
def lv : Live := [((5, 1048576), [1, 24, 25, 26], [83]), ((12, 2097152), [1, 5, 6, 42, 43, 44], [83, 1048592, 1048608])]
abbrev H5 (x24 : List (List DV)) (x25 : Int) (x26 : Int) (b83 : List (List DV)) (b83_1 : List (List DV)) (b83_2 : List (List DV)) (c : (Int × Unit)) : Prop := HeadAns cfg 23 sh lv (bd cfg 23 [1, 1, 0, 1, 0, 0]) 1048576 [.inBlock 0, .code (bd cfg 23 [1, 1, 1])]
  [(AV.ptr 83 0 0 0), (AV.d (DV.lst 1 x24)), (AV.d (DV.v (Value.int IntKind.i64 x25))), (AV.d (DV.v (Value.int IntKind.i64 x26)))] [(Option.some (VBlk.cell 3 0 [(AV.d (DV.lst 2 b83)), (AV.d (DV.lst 1 b83_1)), (AV.d (DV.lst 1 b83_2))]))] 1048576 c
abbrev H12 (x42 : List (List DV)) (x43 : Int) (x44 : Int) (b83 : List (List DV)) (b83_1 : List (List DV)) (b83_2 : List (List DV)) (b1048592 : List (List DV × DV)) (b1048608 : List (List DV × DV)) (c : (Int × Unit)) : Prop := HeadAns cfg 23 sh lv (bd cfg 23 [1, 1, 1, 1, 0, 1, 0, 0]) 2097152 [.inBlock 2, .code (bd cfg 23 [1, 1, 1, 1, 1])]
  [(AV.ptr 83 0 0 0), (AV.map 1048592), (AV.map 1048608), (AV.d (DV.lst 2 x42)), (AV.d (DV.v (Value.int IntKind.i64 x43))), (AV.d (DV.v (Value.int IntKind.i64 x44)))] [(Option.some (VBlk.cell 3 0 [(AV.d (DV.lst 2 b83)), (AV.d (DV.lst 1 b83_1)), (AV.d (DV.lst 1 b83_2))])), (Option.some (VBlk.mp true b1048592)), (Option.some (VBlk.mp false b1048608))] 2097152 c
theorem start (a0_0 : List (List DV)) (a0_1 : List (List DV)) (a0_2 : List (List DV)) (c : (Int × Unit)) (h :
    cond (((((a0_0).length : Nat) : Int) != (((a0_1).length : Nat) : Int))) (
      c = ((2 : Int), ())) (
      cond (decide (((((a0_2).length : Nat) : Int) > (4096 : Int)))) (
        c = ((2 : Int), ())) (
        H5 a0_2 (((a0_2).length : Nat) : Int) (0 : Int) a0_0 a0_1 a0_2 c))) : R a0_0 a0_1 a0_2 = some c := start_rule (n := 400) (lv := lv) (noSum_ok _) (by kernel_rfl) h
theorem H5_step (x24 : List (List DV)) (x25 : Int) (x26 : Int) (b83 : List (List DV)) (b83_1 : List (List DV)) (b83_2 : List (List DV)) (c : (Int × Unit)) (h :
    cond (decide ((x26 < x25))) (
      needs ((0 : Int) ≤ x26) (
      optAll ((x24)[(Int.toNat x26)]?) fun (r0 : List DV) =>
      optAll ((dInt IntKind.i64 r0 0)) fun (z1 : Int) =>
      cond (decide ((z1 < (-1 : Int)))) (
        c = ((2 : Int), ())) (
        cond (decide ((z1 ≥ x26))) (
          c = ((2 : Int), ())) (
          H5 x24 x25 (IntKind.i64.wrap (x26 + (1 : Int))) b83 b83_1 b83_2 c)))) (
      H12 b83 (((b83).length : Nat) : Int) (0 : Int) b83 b83_1 b83_2 [] [] c)) : H5 x24 x25 x26 b83 b83_1 b83_2 c := head_rule (n := 400) (noSum_ok _) (by kernel_rfl) h
theorem H12_step (x42 : List (List DV)) (x43 : Int) (x44 : Int) (b83 : List (List DV)) (b83_1 : List (List DV)) (b83_2 : List (List DV)) (b1048592 : List (List DV × DV)) (b1048608 : List (List DV × DV)) (c : (Int × Unit)) (h :
    cond (decide ((x44 < x43))) (
      needs ((0 : Int) ≤ x44) (
      optAll ((x42)[(Int.toNat x44)]?) fun (r2 : List DV) =>
      optAll ((dInt IntKind.i64 r2 0)) fun (z3 : Int) =>
      optAll ((dInt IntKind.i64 r2 1)) fun (z4 : Int) =>
      needs ((0 : Int) ≤ x44) (
      optAll ((b83_1)[(Int.toNat x44)]?) fun (r5 : List DV) =>
      optAll ((dInt IntKind.i64 r5 0)) fun (z6 : Int) =>
      optAll ((mapHas (Option.some [false, false]) [(DV.v (Value.int IntKind.i64 z3)), (DV.v (Value.int IntKind.i64 z4))] b1048592)) fun (z7 : Bool) =>
      cond (z7) (
        c = ((2 : Int), ())) (
        optAll ((mapHas (Option.none) [(DV.v (Value.int IntKind.i64 z6))] b1048608)) fun (z8 : Bool) =>
        cond (z8) (
          c = ((2 : Int), ())) (
          cond (decide ((z6 < (0 : Int)))) (
            c = ((2 : Int), ())) (
            cond (decide ((z6 ≥ (((b83_2).length : Nat) : Int)))) (
              c = ((2 : Int), ())) (
              optAll (order_Check.R z3 z4) fun (c9 : (Int × Unit)) =>
              cond (((c9).1 != (0 : Int))) (
                c = ((2 : Int), ())) (
                optAll ((mapPut (Option.some [false, false]) [(DV.v (Value.int IntKind.i64 z3)), (DV.v (Value.int IntKind.i64 z4))] (DV.v (Value.bool true)) b1048592)) fun (m10 : List (List DV × DV)) =>
                optAll ((mapPut (Option.none) [(DV.v (Value.int IntKind.i64 z6))] (DV.v (Value.bool true)) b1048608)) fun (m11 : List (List DV × DV)) =>
                H12 x42 x43 (IntKind.i64.wrap (x44 + (1 : Int))) b83 b83_1 b83_2 m10 m11 c)))))))) (
      c = ((0 : Int), ()))) : H12 x42 x43 x44 b83 b83_1 b83_2 b1048592 b1048608 c := head_rule (n := 400) (noSum_ok _) (by kernel_rfl) h
end ghost_Check
/-! garrison/garrisonref14.Is -/
namespace ref14_Is
def lv : Live := [((5, 1048576), [1, 3], [112]), ((10, 2097152), [1, 4], [112]), ((15, 3145728), [1, 4, 5], [112])]
abbrev H5 (x3 : Int) (b112 : List (List DV)) (b112_1 : List (List DV)) (b112_2 : List (List DV)) (c : (Bool × Unit)) : Prop := HeadAns cfg 24 sh lv (bd cfg 24 [1, 1, 0, 1, 0, 0]) 1048576 [.inBlock 0, .code (bd cfg 24 [1, 1, 1])]
  [(AV.ptr 112 0 0 0), (AV.d (DV.v (Value.int IntKind.i64 x3)))] [(Option.some (VBlk.cell 3 0 [(AV.d (DV.lst 2 b112)), (AV.d (DV.lst 1 b112_1)), (AV.d (DV.lst 1 b112_2))]))] 1048576 c
abbrev H10 (x4 : Int) (b112 : List (List DV)) (b112_1 : List (List DV)) (b112_2 : List (List DV)) (c : (Bool × Unit)) : Prop := HeadAns cfg 24 sh lv (bd cfg 24 [1, 1, 1, 0, 1, 0, 0]) 2097152 [.inBlock 2, .code (bd cfg 24 [1, 1, 1, 1])]
  [(AV.ptr 112 0 0 0), (AV.d (DV.v (Value.int IntKind.i64 x4)))] [(Option.some (VBlk.cell 3 0 [(AV.d (DV.lst 2 b112)), (AV.d (DV.lst 1 b112_1)), (AV.d (DV.lst 1 b112_2))]))] 2097152 c
abbrev H15 (x4 : Int) (x5 : Int) (b112 : List (List DV)) (b112_1 : List (List DV)) (b112_2 : List (List DV)) (c : (Bool × Unit)) : Prop := HeadAns cfg 24 sh lv (bd cfg 24 [1, 1, 1, 0, 1, 0, 0, 1, 0, 0, 1, 1, 0, 0]) 3145728 [.inBlock 4, .inBlock 3, .code (bd cfg 24 [1, 1, 1, 0, 1, 0, 0, 1, 1]), .inLoop (bd cfg 24 [1, 1, 1, 0, 1, 0, 0]) 2097152, .inBlock 2, .code (bd cfg 24 [1, 1, 1, 1])]
  [(AV.ptr 112 0 0 0), (AV.d (DV.v (Value.int IntKind.i64 x4))), (AV.d (DV.v (Value.int IntKind.i64 x5)))] [(Option.some (VBlk.cell 3 0 [(AV.d (DV.lst 2 b112)), (AV.d (DV.lst 1 b112_1)), (AV.d (DV.lst 1 b112_2))]))] 3145728 c
theorem start (a0_0 : List (List DV)) (a0_1 : List (List DV)) (a0_2 : List (List DV)) (c : (Bool × Unit)) (h :
    cond (((((a0_0).length : Nat) : Int) != (((a0_1).length : Nat) : Int))) (
      c = (false, ())) (
      cond (decide (((((a0_2).length : Nat) : Int) > (4096 : Int)))) (
        c = (false, ())) (
        cond (decide (((((a0_0).length : Nat) : Int) > (((a0_2).length : Nat) : Int)))) (
          c = (false, ())) (
          H5 (0 : Int) a0_0 a0_1 a0_2 c)))) : R a0_0 a0_1 a0_2 = some c := start_rule (n := 400) (lv := lv) (noSum_ok _) (by kernel_rfl) h
theorem H5_step (x3 : Int) (b112 : List (List DV)) (b112_1 : List (List DV)) (b112_2 : List (List DV)) (c : (Bool × Unit)) (h :
    cond (decide ((x3 < (((b112_2).length : Nat) : Int)))) (
      needs ((0 : Int) ≤ x3) (
      optAll ((b112_2)[(Int.toNat x3)]?) fun (r0 : List DV) =>
      optAll ((dInt IntKind.i64 r0 0)) fun (z1 : Int) =>
      cond (decide ((z1 < (-1 : Int)))) (
        c = (false, ())) (
        needs ((0 : Int) ≤ x3) (
        optAll ((b112_2)[(Int.toNat x3)]?) fun (r2 : List DV) =>
        optAll ((dInt IntKind.i64 r2 0)) fun (z3 : Int) =>
        cond (decide ((z3 ≥ x3))) (
          c = (false, ())) (
          H5 (IntKind.i64.wrap (x3 + (1 : Int))) b112 b112_1 b112_2 c))))) (
      H10 (0 : Int) b112 b112_1 b112_2 c)) : H5 x3 b112 b112_1 b112_2 c := head_rule (n := 400) (noSum_ok _) (by kernel_rfl) h
theorem H10_step (x4 : Int) (b112 : List (List DV)) (b112_1 : List (List DV)) (b112_2 : List (List DV)) (c : (Bool × Unit)) (h :
    cond (decide ((x4 < (((b112).length : Nat) : Int)))) (
      needs ((0 : Int) ≤ x4) (
      optAll ((b112)[(Int.toNat x4)]?) fun (r4 : List DV) =>
      optAll ((dInt IntKind.i64 r4 0)) fun (z5 : Int) =>
      optAll ((dInt IntKind.i64 r4 1)) fun (z6 : Int) =>
      optAll (ref06_Is.R z5 z6) fun (c7 : (Bool × Unit)) =>
      cond ((!(c7).1)) (
        c = (false, ())) (
        needs ((0 : Int) ≤ x4) (
        optAll ((b112_1)[(Int.toNat x4)]?) fun (r8 : List DV) =>
        optAll ((dInt IntKind.i64 r8 0)) fun (z9 : Int) =>
        cond (decide ((z9 < (0 : Int)))) (
          c = (false, ())) (
          needs ((0 : Int) ≤ x4) (
          optAll ((b112_1)[(Int.toNat x4)]?) fun (r10 : List DV) =>
          optAll ((dInt IntKind.i64 r10 0)) fun (z11 : Int) =>
          cond (decide ((z11 ≥ (((b112_2).length : Nat) : Int)))) (
            c = (false, ())) (
            H15 x4 (0 : Int) b112 b112_1 b112_2 c))))))) (
      c = (true, ()))) : H10 x4 b112 b112_1 b112_2 c := head_rule (n := 400) (noSum_ok _) (by kernel_rfl) h
theorem H15_step (x4 : Int) (x5 : Int) (b112 : List (List DV)) (b112_1 : List (List DV)) (b112_2 : List (List DV)) (c : (Bool × Unit)) (h :
    cond (decide ((x5 < x4))) (
      needs ((0 : Int) ≤ x5) (
      optAll ((b112)[(Int.toNat x5)]?) fun (r12 : List DV) =>
      optAll ((dInt IntKind.i64 r12 0)) fun (z13 : Int) =>
      optAll ((dInt IntKind.i64 r12 1)) fun (z14 : Int) =>
      needs ((0 : Int) ≤ x4) (
      optAll ((b112)[(Int.toNat x4)]?) fun (r15 : List DV) =>
      optAll ((dInt IntKind.i64 r15 0)) fun (z16 : Int) =>
      optAll ((dInt IntKind.i64 r15 1)) fun (z17 : Int) =>
      cond (((z13 == z16) && ((z14 == z17) && true))) (
        c = (false, ())) (
        needs ((0 : Int) ≤ x5) (
        optAll ((b112_1)[(Int.toNat x5)]?) fun (r18 : List DV) =>
        optAll ((dInt IntKind.i64 r18 0)) fun (z19 : Int) =>
        needs ((0 : Int) ≤ x4) (
        optAll ((b112_1)[(Int.toNat x4)]?) fun (r20 : List DV) =>
        optAll ((dInt IntKind.i64 r20 0)) fun (z21 : Int) =>
        cond ((z19 == z21)) (
          c = (false, ())) (
          H15 x4 (IntKind.i64.wrap (x5 + (1 : Int))) b112 b112_1 b112_2 c))))))) (
      H10 (IntKind.i64.wrap (x4 + (1 : Int))) b112 b112_1 b112_2 c)) : H15 x4 x5 b112 b112_1 b112_2 c := head_rule (n := 400) (noSum_ok _) (by kernel_rfl) h
end ref14_Is
/-! garrison/ghost.Same -/
namespace ghost_Same
def lv : Live := []
theorem start (a0_0 : List (List DV)) (a0_1 : List (List DV)) (a0_2 : List (List DV)) (a1_0 : List (List DV)) (a1_1 : List (List DV)) (a1_2 : List (List DV)) (c : (Bool × Unit)) (h :
    optAll (slices_Equal_api_Key_api_Key.R a0_0 a1_0) fun (c0 : (Bool × Unit)) =>
    cond ((c0).1) (
      optAll (slices_Equal_int_int.R a0_1 a1_1) fun (c1 : (Bool × Unit)) =>
      cond ((c1).1) (
        optAll (slices_Equal_int_int.R a0_2 a1_2) fun (c2 : (Bool × Unit)) =>
        c = ((c2).1, ())) (
        c = (false, ()))) (
      c = (false, ()))) : R a0_0 a0_1 a0_2 a1_0 a1_1 a1_2 = some c := start_rule (n := 400) (lv := lv) (noSum_ok _) (by kernel_rfl) h
end ghost_Same
/-! garrison/ghost.Run -/
namespace ghost_Run
def lv : Live := [((3, 1048576), [2, 3, 8, 9, 10], [28])]
abbrev H3 (x3 : Int) (x8 : List (List DV)) (x9 : Int) (x10 : Int) (b28 : List (List DV)) (b28_1 : List (List DV)) (b28_2 : List (List DV)) (c : ((List (List DV) × (List (List DV) × (List (List DV) × Unit))) × (Int × Unit))) : Prop := HeadAns cfg 26 sh lv (bd cfg 26 [1, 0, 1, 0, 1, 0, 0]) 1048576 [.inBlock 0, .code (bd cfg 26 [1, 0, 1, 1]), .inScope (bd cfg 26 [1, 0])]
  [(AV.ptr 28 0 0 0), (AV.d (DV.v (Value.int IntKind.i64 x3))), (AV.d (DV.lst 5 x8)), (AV.d (DV.v (Value.int IntKind.i64 x9))), (AV.d (DV.v (Value.int IntKind.i64 x10)))] [(Option.some (VBlk.cell 3 0 [(AV.d (DV.lst 2 b28)), (AV.d (DV.lst 1 b28_1)), (AV.d (DV.lst 1 b28_2))]))] 1048576 c
theorem start (a0 : List (List DV)) (c : ((List (List DV) × (List (List DV) × (List (List DV) × Unit))) × (Int × Unit))) (h :
    H3 (0 : Int) a0 (((a0).length : Nat) : Int) (0 : Int) [] [] [] c) : R a0 = some c := start_rule (n := 400) (lv := lv) (noSum_ok _) (by kernel_rfl) h
theorem H3_step (x3 : Int) (x8 : List (List DV)) (x9 : Int) (x10 : Int) (b28 : List (List DV)) (b28_1 : List (List DV)) (b28_2 : List (List DV)) (c : ((List (List DV) × (List (List DV) × (List (List DV) × Unit))) × (Int × Unit))) (h :
    cond (decide ((x10 < x9))) (
      needs ((0 : Int) ≤ x10) (
      optAll ((x8)[(Int.toNat x10)]?) fun (r0 : List DV) =>
      optAll ((dInt IntKind.i64 r0 0)) fun (z1 : Int) =>
      optAll ((dInt IntKind.i64 r0 1)) fun (z2 : Int) =>
      optAll ((dInt IntKind.i64 r0 2)) fun (z3 : Int) =>
      optAll ((dInt IntKind.i64 r0 3)) fun (z4 : Int) =>
      optAll ((dInt IntKind.i64 r0 4)) fun (z5 : Int) =>
      optAll (ghost_Add.R b28 b28_1 b28_2 z1 z2 z3 z4 z5) fun (c6 : ((List (List DV) × (List (List DV) × (List (List DV) × Unit))) × (Int × Unit))) =>
      cond ((((c6).2).1 != (0 : Int))) (
        H3 (IntKind.i64.wrap (x3 + (1 : Int))) x8 x9 (IntKind.i64.wrap (x10 + (1 : Int))) b28 b28_1 b28_2 c) (
        H3 x3 x8 x9 (IntKind.i64.wrap (x10 + (1 : Int))) ((c6).1).1 (((c6).1).2).1 ((((c6).1).2).2).1 c))) (
      c = ((b28, (b28_1, (b28_2, ()))), (x3, ())))) : H3 x3 x8 x9 x10 b28 b28_1 b28_2 c := head_rule (n := 400) (noSum_ok _) (by kernel_rfl) h
end ghost_Run
/-! garrison/garrisonref14.Run -/
namespace ref14_Run
def lv : Live := [((5, 1048576), [0, 2, 4, 5, 6], [32, 80])]
abbrev H5 (x0 : List (List DV)) (x5 : Int) (x6 : Int) (b32 : List (List DV)) (b32_1 : List (List DV)) (b32_2 : List (List DV)) (b80 : List (List DV)) (b80_1 : List (List DV)) (b80_2 : List (List DV)) (c : ((List (List DV) × (List (List DV) × (List (List DV) × Unit))) × (Int × Unit))) : Prop := HeadAns cfg 27 sh lv (bd cfg 27 [1, 1, 1, 0, 1, 0, 0]) 1048576 [.inBlock 0, .code (bd cfg 27 [1, 1, 1, 1])]
  [(AV.d (DV.lst 5 x0)), (AV.ptr 32 0 0 0), (AV.ptr 80 0 0 0), (AV.d (DV.v (Value.int IntKind.i64 x5))), (AV.d (DV.v (Value.int IntKind.i64 x6)))] [(Option.some (VBlk.cell 3 0 [(AV.d (DV.lst 2 b32)), (AV.d (DV.lst 1 b32_1)), (AV.d (DV.lst 1 b32_2))])), (Option.some (VBlk.cell 3 0 [(AV.d (DV.lst 2 b80)), (AV.d (DV.lst 1 b80_1)), (AV.d (DV.lst 1 b80_2))]))] 1048576 c
theorem start (a0 : List (List DV)) (c : ((List (List DV) × (List (List DV) × (List (List DV) × Unit))) × (Int × Unit))) (h :
    H5 a0 (0 : Int) (0 : Int) [] [] [] [] [] [] c) : R a0 = some c := start_rule (n := 400) (lv := lv) (noSum_ok _) (by kernel_rfl) h
theorem H5_step (x0 : List (List DV)) (x5 : Int) (x6 : Int) (b32 : List (List DV)) (b32_1 : List (List DV)) (b32_2 : List (List DV)) (b80 : List (List DV)) (b80_1 : List (List DV)) (b80_2 : List (List DV)) (c : ((List (List DV) × (List (List DV) × (List (List DV) × Unit))) × (Int × Unit))) (h :
    cond (decide ((x6 < (((x0).length : Nat) : Int)))) (
      needs ((0 : Int) ≤ x6) (
      optAll ((x0)[(Int.toNat x6)]?) fun (r0 : List DV) =>
      optAll ((dInt IntKind.i64 r0 0)) fun (z1 : Int) =>
      optAll ((dInt IntKind.i64 r0 1)) fun (z2 : Int) =>
      optAll ((dInt IntKind.i64 r0 2)) fun (z3 : Int) =>
      optAll ((dInt IntKind.i64 r0 3)) fun (z4 : Int) =>
      optAll ((dInt IntKind.i64 r0 4)) fun (z5 : Int) =>
      optAll (ref14_Add.R b80 b80_1 b80_2 z1 z2 z3 z4 z5) fun (c6 : ((List (List DV) × (List (List DV) × (List (List DV) × Unit))) × (Int × Unit))) =>
      cond ((((c6).2).1 != (0 : Int))) (
        H5 x0 (IntKind.i64.wrap (x5 + (1 : Int))) (IntKind.i64.wrap (x6 + (1 : Int))) b32 b32_1 b32_2 ((c6).1).1 (((c6).1).2).1 ((((c6).1).2).2).1 c) (
        H5 x0 x5 (IntKind.i64.wrap (x6 + (1 : Int))) b32 b32_1 b32_2 ((c6).1).1 (((c6).1).2).1 ((((c6).1).2).2).1 c))) (
      c = ((b80, (b80_1, (b80_2, ()))), (x5, ())))) : H5 x0 x5 x6 b32 b32_1 b32_2 b80 b80_1 b80_2 c := head_rule (n := 400) (noSum_ok _) (by kernel_rfl) h
end ref14_Run
/-! garrison/ghost.Who -/
namespace ghost_Who
def lv : Live := []
theorem start (a0_0 : List (List DV)) (a0_1 : List (List DV)) (a0_2 : List (List DV)) (a1_0 : Int) (a1_1 : Int) (c : (Int × (Bool × Unit))) (h :
    optAll (slices_Index_api_Key_api_Key.R a0_0 a1_0 a1_1) fun (c0 : (Int × Unit)) =>
    cond (decide (((c0).1 < (0 : Int)))) (
      c = ((0 : Int), (false, ()))) (
      cond (decide (((c0).1 ≥ (((a0_1).length : Nat) : Int)))) (
        c = ((0 : Int), (false, ()))) (
        needs ((0 : Int) ≤ (c0).1) (
        optAll ((a0_1)[(Int.toNat (c0).1)]?) fun (r1 : List DV) =>
        optAll ((dInt IntKind.i64 r1 0)) fun (z2 : Int) =>
        c = (z2, (true, ())))))) : R a0_0 a0_1 a0_2 a1_0 a1_1 = some c := start_rule (n := 400) (lv := lv) (noSum_ok _) (by kernel_rfl) h
end ghost_Who
/-! garrison/ghost.Descends -/
namespace ghost_Descends
def lv : Live := []
theorem start (a0_0 : List (List DV)) (a0_1 : List (List DV)) (a0_2 : List (List DV)) (a1_0 : Int) (a1_1 : Int) (a2_0 : Int) (a2_1 : Int) (c : (Bool × Unit)) (h :
    optAll (ghost_Who.R a0_0 a0_1 a0_2 a1_0 a1_1) fun (c0 : (Int × (Bool × Unit))) =>
    optAll (ghost_Who.R a0_0 a0_1 a0_2 a2_0 a2_1) fun (c1 : (Int × (Bool × Unit))) =>
    cond (((c0).2).1) (
      cond (((c1).2).1) (
        optAll (ghost_Above.R a0_0 a0_1 a0_2 (c0).1) fun (c2 : (List (List DV) × Unit)) =>
        optAll (slices_Contains_int_int.R (c2).1 (c1).1) fun (c3 : (Bool × Unit)) =>
        c = ((c3).1, ())) (
        c = (false, ()))) (
      c = (false, ()))) : R a0_0 a0_1 a0_2 a1_0 a1_1 a2_0 a2_1 = some c := start_rule (n := 400) (lv := lv) (noSum_ok _) (by kernel_rfl) h
end ghost_Descends
/-! garrison/ghost.Above -/
namespace ghost_Above
def lv : Live := [((2, 1048576), [1, 2, 4], [33, 4])]
abbrev H2 (x1 : Int) (b4 : List (List DV)) (b33 : List (List DV)) (b33_1 : List (List DV)) (b33_2 : List (List DV)) (c : (List (List DV) × Unit)) : Prop := HeadAns cfg 30 sh lv (bd cfg 30 [1, 0, 0, 0]) 1048576 [.inBlock 0, .code (bd cfg 30 [1, 1])]
  [(AV.d (DV.v (Value.int IntKind.i64 x1))), (AV.ptr 33 0 0 0), (AV.ref 4 0 0 (List.length b4))] [(Option.some (VBlk.cell 3 0 [(AV.d (DV.lst 2 b33)), (AV.d (DV.lst 1 b33_1)), (AV.d (DV.lst 1 b33_2))])), (Option.some (VBlk.drow 1 0 b4))] 1048576 c
theorem start (a0_0 : List (List DV)) (a0_1 : List (List DV)) (a0_2 : List (List DV)) (a1 : Int) (c : (List (List DV) × Unit)) (h :
    H2 a1 [] a0_0 a0_1 a0_2 c) : R a0_0 a0_1 a0_2 a1 = some c := start_rule (n := 400) (lv := lv) (noSum_ok _) (by kernel_rfl) h
theorem H2_step (x1 : Int) (b4 : List (List DV)) (b33 : List (List DV)) (b33_1 : List (List DV)) (b33_2 : List (List DV)) (c : (List (List DV) × Unit)) (h :
    cond (decide ((x1 ≥ (0 : Int)))) (
      cond (decide ((x1 < (((b33_2).length : Nat) : Int)))) (
        needs ((0 : Int) ≤ x1) (
        optAll ((b33_2)[(Int.toNat x1)]?) fun (r0 : List DV) =>
        optAll ((dInt IntKind.i64 r0 0)) fun (z1 : Int) =>
        cond (decide ((z1 < (0 : Int)))) (
          c = (((b4).take ((b4).length)), ())) (
          cond (decide ((z1 ≥ x1))) (
            c = (((b4).take ((b4).length)), ())) (
            needs ((b4).length = (b4).length) (
            needs (((((b4 ++ (([[(DV.v (Value.int IntKind.i64 z1))]]).take (1)))).length * 8) ≤ 140737488355328) ∧ ((((b4 ++ (([[(DV.v (Value.int IntKind.i64 z1))]]).take (1)))).length * 1) ≤ 140737488355328)) (
            H2 z1 (b4 ++ (([[(DV.v (Value.int IntKind.i64 z1))]]).take (1))) b33 b33_1 b33_2 c)))))) (
        c = (((b4).take ((b4).length)), ()))) (
      c = (((b4).take ((b4).length)), ()))) : H2 x1 b4 b33 b33_1 b33_2 c := head_rule (n := 400) (noSum_ok _) (by kernel_rfl) h
end ghost_Above
/-! garrison/ghost.isBirth -/
namespace ghost_isBirth
def lv : Live := []
theorem start (a0_0 : Int) (a0_1 : Int) (a0_2 : Int) (a0_3 : Int) (a0_4 : Int) (c : (Bool × Unit)) (h :
    cond ((a0_0 == (2 : Int))) (
      optAll (order_Check.R a0_1 a0_2) fun (c0 : (Int × Unit)) =>
      cond (((c0).1 == (0 : Int))) (
        optAll (order_Check.R a0_3 a0_4) fun (c1 : (Int × Unit)) =>
        c = (((c1).1 == (0 : Int)), ())) (
        c = (false, ()))) (
      cond ((a0_0 == (3 : Int))) (
        optAll (order_Check.R a0_1 a0_2) fun (c2 : (Int × Unit)) =>
        cond (((c2).1 == (0 : Int))) (
          optAll (order_Check.R a0_3 a0_4) fun (c3 : (Int × Unit)) =>
          c = (((c3).1 == (0 : Int)), ())) (
          c = (false, ()))) (
        cond ((a0_0 == (1 : Int))) (
          optAll (order_Check.R a0_1 a0_2) fun (c4 : (Int × Unit)) =>
          c = (((c4).1 == (0 : Int)), ())) (
          cond ((a0_0 == (4 : Int))) (
            optAll (order_Check.R a0_1 a0_2) fun (c5 : (Int × Unit)) =>
            c = (((c5).1 == (0 : Int)), ())) (
            c = (false, ())))))) : R a0_0 a0_1 a0_2 a0_3 a0_4 = some c := start_rule (n := 400) (lv := lv) (noSum_ok _) (by kernel_rfl) h
end ghost_isBirth
/-! slices.Index[[]garrison/api.Key,garrison/api.Key] -/
namespace slices_Index_api_Key_api_Key
def lv : Live := [((3, 1048576), [0, 3, 7, 8], [19])]
abbrev H3 (x0 : List (List DV)) (x7 : Int) (x8 : Int) (b19 : Int) (b19_1 : Int) (c : (Int × Unit)) : Prop := HeadAns cfg 57 sh lv (bd cfg 57 [1, 0, 1, 0, 0]) 1048576 [.inBlock 0, .code (bd cfg 57 [1, 1])]
  [(AV.d (DV.lst 2 x0)), (AV.ptr 19 0 0 0), (AV.d (DV.v (Value.int IntKind.i64 x7))), (AV.d (DV.v (Value.int IntKind.i64 x8)))] [(Option.some (VBlk.cell 2 0 [(AV.d (DV.v (Value.int IntKind.i64 b19))), (AV.d (DV.v (Value.int IntKind.i64 b19_1)))]))] 1048576 c
theorem start (a0 : List (List DV)) (a1_0 : Int) (a1_1 : Int) (c : (Int × Unit)) (h :
    H3 a0 (((a0).length : Nat) : Int) (0 : Int) a1_0 a1_1 c) : R a0 a1_0 a1_1 = some c := start_rule (n := 400) (lv := lv) (noSum_ok _) (by kernel_rfl) h
theorem H3_step (x0 : List (List DV)) (x7 : Int) (x8 : Int) (b19 : Int) (b19_1 : Int) (c : (Int × Unit)) (h :
    cond (decide ((x8 < x7))) (
      needs ((0 : Int) ≤ x8) (
      optAll ((x0)[(Int.toNat x8)]?) fun (r0 : List DV) =>
      optAll ((dInt IntKind.i64 r0 0)) fun (z1 : Int) =>
      optAll ((dInt IntKind.i64 r0 1)) fun (z2 : Int) =>
      cond (((b19 == z1) && ((b19_1 == z2) && true))) (
        c = (x8, ())) (
        H3 x0 x7 (IntKind.i64.wrap (x8 + (1 : Int))) b19 b19_1 c))) (
      c = ((-1 : Int), ()))) : H3 x0 x7 x8 b19 b19_1 c := head_rule (n := 400) (noSum_ok _) (by kernel_rfl) h
end slices_Index_api_Key_api_Key
/-! garrison/ghost.born -/
namespace ghost_born
def lv : Live := []
theorem start (a0_0 : List (List DV)) (a0_1 : List (List DV)) (a0_2 : List (List DV)) (a1_0 : Int) (a1_1 : Int) (a2 : Int) (c : ((List (List DV) × (List (List DV) × (List (List DV) × Unit))) × (Int × Unit))) (h :
    cond (decide (((((a0_2).length : Nat) : Int) ≥ (4096 : Int)))) (
      c = ((a0_0, (a0_1, (a0_2, ()))), ((6 : Int), ()))) (
      needs ((((a0_0).length * 16) ≤ 140737488355328) ∧ (((a0_0).length * 2) ≤ 140737488355328)) (
      needs ((a0_0).length = (a0_0).length) (
      needs (((((a0_0 ++ (([[(DV.v (Value.int IntKind.i64 a1_0)), (DV.v (Value.int IntKind.i64 a1_1))]]).take (1)))).length * 16) ≤ 140737488355328) ∧ ((((a0_0 ++ (([[(DV.v (Value.int IntKind.i64 a1_0)), (DV.v (Value.int IntKind.i64 a1_1))]]).take (1)))).length * 2) ≤ 140737488355328)) (
      needs ((((a0_1).length * 8) ≤ 140737488355328) ∧ (((a0_1).length * 1) ≤ 140737488355328)) (
      needs ((a0_1).length = (a0_1).length) (
      needs (((((a0_1 ++ (([[(DV.v (Value.int IntKind.i64 (((a0_2).length : Nat) : Int)))]]).take (1)))).length * 8) ≤ 140737488355328) ∧ ((((a0_1 ++ (([[(DV.v (Value.int IntKind.i64 (((a0_2).length : Nat) : Int)))]]).take (1)))).length * 1) ≤ 140737488355328)) (
      needs ((((a0_2).length * 8) ≤ 140737488355328) ∧ (((a0_2).length * 1) ≤ 140737488355328)) (
      needs ((a0_2).length = (a0_2).length) (
      needs (((((a0_2 ++ (([[(DV.v (Value.int IntKind.i64 a2))]]).take (1)))).length * 8) ≤ 140737488355328) ∧ ((((a0_2 ++ (([[(DV.v (Value.int IntKind.i64 a2))]]).take (1)))).length * 1) ≤ 140737488355328)) (
      c = (((((a0_0 ++ (([[(DV.v (Value.int IntKind.i64 a1_0)), (DV.v (Value.int IntKind.i64 a1_1))]]).take (1)))).take (((a0_0 ++ (([[(DV.v (Value.int IntKind.i64 a1_0)), (DV.v (Value.int IntKind.i64 a1_1))]]).take (1)))).length)), ((((a0_1 ++ (([[(DV.v (Value.int IntKind.i64 (((a0_2).length : Nat) : Int)))]]).take (1)))).take (((a0_1 ++ (([[(DV.v (Value.int IntKind.i64 (((a0_2).length : Nat) : Int)))]]).take (1)))).length)), ((((a0_2 ++ (([[(DV.v (Value.int IntKind.i64 a2))]]).take (1)))).take (((a0_2 ++ (([[(DV.v (Value.int IntKind.i64 a2))]]).take (1)))).length)), ()))), ((0 : Int), ()))))))))))))) : R a0_0 a0_1 a0_2 a1_0 a1_1 a2 = some c := start_rule (n := 400) (lv := lv) (noSum_ok _) (by kernel_rfl) h
end ghost_born
/-! garrison/garrisonref06.Is -/
namespace ref06_Is
def lv : Live := []
theorem start (a0_0 : Int) (a0_1 : Int) (c : (Bool × Unit)) (h :
    cond (decide ((a0_0 ≥ (0 : Int)))) (
      cond (decide ((a0_0 ≤ (1023 : Int)))) (
        cond (decide ((a0_1 ≥ (-1 : Int)))) (
          c = (decide ((a0_1 ≤ (7 : Int))), ())) (
          c = (false, ()))) (
        c = (false, ()))) (
      c = (false, ()))) : R a0_0 a0_1 = some c := start_rule (n := 400) (lv := lv) (noSum_ok _) (by kernel_rfl) h
end ref06_Is
/-! garrison/garrisonref14.find -/
namespace ref14_find
def lv : Live := [((3, 1048576), [2, 3, 5], [21, 37])]
abbrev H3 (x5 : Int) (b21 : List (List DV)) (b21_1 : List (List DV)) (b21_2 : List (List DV)) (b37 : Int) (b37_1 : Int) (c : (Int × Unit)) : Prop := HeadAns cfg 64 sh lv (bd cfg 64 [1, 0, 1, 0, 0]) 1048576 [.inBlock 0, .code (bd cfg 64 [1, 1])]
  [(AV.ptr 21 0 0 0), (AV.ptr 37 0 0 0), (AV.d (DV.v (Value.int IntKind.i64 x5)))] [(Option.some (VBlk.cell 3 0 [(AV.d (DV.lst 2 b21)), (AV.d (DV.lst 1 b21_1)), (AV.d (DV.lst 1 b21_2))])), (Option.some (VBlk.cell 2 0 [(AV.d (DV.v (Value.int IntKind.i64 b37))), (AV.d (DV.v (Value.int IntKind.i64 b37_1)))]))] 1048576 c
theorem start (a0_0 : List (List DV)) (a0_1 : List (List DV)) (a0_2 : List (List DV)) (a1_0 : Int) (a1_1 : Int) (c : (Int × Unit)) (h :
    H3 (0 : Int) a0_0 a0_1 a0_2 a1_0 a1_1 c) : R a0_0 a0_1 a0_2 a1_0 a1_1 = some c := start_rule (n := 400) (lv := lv) (noSum_ok _) (by kernel_rfl) h
theorem H3_step (x5 : Int) (b21 : List (List DV)) (b21_1 : List (List DV)) (b21_2 : List (List DV)) (b37 : Int) (b37_1 : Int) (c : (Int × Unit)) (h :
    cond (decide ((x5 < (((b21).length : Nat) : Int)))) (
      needs ((0 : Int) ≤ x5) (
      optAll ((b21)[(Int.toNat x5)]?) fun (r0 : List DV) =>
      optAll ((dInt IntKind.i64 r0 0)) fun (z1 : Int) =>
      optAll ((dInt IntKind.i64 r0 1)) fun (z2 : Int) =>
      cond (((z1 == b37) && ((z2 == b37_1) && true))) (
        c = (x5, ())) (
        H3 (IntKind.i64.wrap (x5 + (1 : Int))) b21 b21_1 b21_2 b37 b37_1 c))) (
      c = ((-1 : Int), ()))) : H3 x5 b21 b21_1 b21_2 b37 b37_1 c := head_rule (n := 400) (noSum_ok _) (by kernel_rfl) h
end ref14_find
/-! garrison/garrisonref06.Same -/
namespace ref06_Same
def lv : Live := [((5, 1048576), [0, 1, 5], [])]
abbrev H5 (x0 : List (List DV)) (x1 : List (List DV)) (x5 : Int) (c : (Bool × Unit)) : Prop := HeadAns cfg 43 sh lv (bd cfg 43 [1, 1, 0, 1, 0, 0]) 1048576 [.inBlock 0, .code (bd cfg 43 [1, 1, 1])]
  [(AV.d (DV.lst 2 x0)), (AV.d (DV.lst 2 x1)), (AV.d (DV.v (Value.int IntKind.i64 x5)))] [] 1048576 c
theorem start (a0 : List (List DV)) (a1 : List (List DV)) (c : (Bool × Unit)) (h :
    cond (((((a0).length : Nat) : Int) != (((a1).length : Nat) : Int))) (
      c = (false, ())) (
      H5 a0 a1 (0 : Int) c)) : R a0 a1 = some c := start_rule (n := 400) (lv := lv) (noSum_ok _) (by kernel_rfl) h
theorem H5_step (x0 : List (List DV)) (x1 : List (List DV)) (x5 : Int) (c : (Bool × Unit)) (h :
    cond (decide ((x5 < (((x0).length : Nat) : Int)))) (
      needs ((0 : Int) ≤ x5) (
      optAll ((x0)[(Int.toNat x5)]?) fun (r0 : List DV) =>
      optAll ((dInt IntKind.i64 r0 0)) fun (z1 : Int) =>
      optAll ((dInt IntKind.i64 r0 1)) fun (z2 : Int) =>
      needs ((0 : Int) ≤ x5) (
      optAll ((x1)[(Int.toNat x5)]?) fun (r3 : List DV) =>
      optAll ((dInt IntKind.i64 r3 0)) fun (z4 : Int) =>
      optAll ((dInt IntKind.i64 r3 1)) fun (z5 : Int) =>
      cond ((!((z1 == z4) && ((z2 == z5) && true)))) (
        c = (false, ())) (
        H5 x0 x1 (IntKind.i64.wrap (x5 + (1 : Int))) c)))) (
      c = (true, ()))) : H5 x0 x1 x5 c := head_rule (n := 400) (noSum_ok _) (by kernel_rfl) h
end ref06_Same
/-! garrison/garrisonref07.Ints -/
namespace ref07_Ints
def lv : Live := [((5, 1048576), [0, 1, 5], [])]
abbrev H5 (x0 : List (List DV)) (x1 : List (List DV)) (x5 : Int) (c : (Bool × Unit)) : Prop := HeadAns cfg 55 sh lv (bd cfg 55 [1, 1, 0, 1, 0, 0]) 1048576 [.inBlock 0, .code (bd cfg 55 [1, 1, 1])]
  [(AV.d (DV.lst 1 x0)), (AV.d (DV.lst 1 x1)), (AV.d (DV.v (Value.int IntKind.i64 x5)))] [] 1048576 c
theorem start (a0 : List (List DV)) (a1 : List (List DV)) (c : (Bool × Unit)) (h :
    cond (((((a0).length : Nat) : Int) != (((a1).length : Nat) : Int))) (
      c = (false, ())) (
      H5 a0 a1 (0 : Int) c)) : R a0 a1 = some c := start_rule (n := 400) (lv := lv) (noSum_ok _) (by kernel_rfl) h
theorem H5_step (x0 : List (List DV)) (x1 : List (List DV)) (x5 : Int) (c : (Bool × Unit)) (h :
    cond (decide ((x5 < (((x0).length : Nat) : Int)))) (
      needs ((0 : Int) ≤ x5) (
      optAll ((x0)[(Int.toNat x5)]?) fun (r0 : List DV) =>
      optAll ((dInt IntKind.i64 r0 0)) fun (z1 : Int) =>
      needs ((0 : Int) ≤ x5) (
      optAll ((x1)[(Int.toNat x5)]?) fun (r2 : List DV) =>
      optAll ((dInt IntKind.i64 r2 0)) fun (z3 : Int) =>
      cond ((z1 != z3)) (
        c = (false, ())) (
        H5 x0 x1 (IntKind.i64.wrap (x5 + (1 : Int))) c)))) (
      c = (true, ()))) : H5 x0 x1 x5 c := head_rule (n := 400) (noSum_ok _) (by kernel_rfl) h
end ref07_Ints
/-! garrison/order.Check -/
namespace order_Check
def lv : Live := []
theorem start (a0_0 : Int) (a0_1 : Int) (c : (Int × Unit)) (h :
    cond (decide ((a0_0 < (0 : Int)))) (
      c = ((2 : Int), ())) (
      cond (decide ((a0_0 > (1023 : Int)))) (
        c = ((2 : Int), ())) (
        cond (decide ((a0_1 < (-1 : Int)))) (
          c = ((2 : Int), ())) (
          cond (decide ((a0_1 ≥ (8 : Int)))) (
            c = ((2 : Int), ())) (
            c = ((0 : Int), ())))))) : R a0_0 a0_1 = some c := start_rule (n := 400) (lv := lv) (noSum_ok _) (by kernel_rfl) h
end order_Check
/-! slices.Equal[[]garrison/api.Key,garrison/api.Key] -/
namespace slices_Equal_api_Key_api_Key
def lv : Live := [((5, 1048576), [0, 1, 12, 13], [])]
abbrev H5 (x0 : List (List DV)) (x1 : List (List DV)) (x12 : Int) (x13 : Int) (c : (Bool × Unit)) : Prop := HeadAns cfg 66 sh lv (bd cfg 66 [1, 1, 0, 1, 0, 0]) 1048576 [.inBlock 0, .code (bd cfg 66 [1, 1, 1])]
  [(AV.d (DV.lst 2 x0)), (AV.d (DV.lst 2 x1)), (AV.d (DV.v (Value.int IntKind.i64 x12))), (AV.d (DV.v (Value.int IntKind.i64 x13)))] [] 1048576 c
theorem start (a0 : List (List DV)) (a1 : List (List DV)) (c : (Bool × Unit)) (h :
    cond (((((a0).length : Nat) : Int) != (((a1).length : Nat) : Int))) (
      c = (false, ())) (
      H5 a0 a1 (((a0).length : Nat) : Int) (0 : Int) c)) : R a0 a1 = some c := start_rule (n := 400) (lv := lv) (noSum_ok _) (by kernel_rfl) h
theorem H5_step (x0 : List (List DV)) (x1 : List (List DV)) (x12 : Int) (x13 : Int) (c : (Bool × Unit)) (h :
    cond (decide ((x13 < x12))) (
      needs ((0 : Int) ≤ x13) (
      optAll ((x0)[(Int.toNat x13)]?) fun (r0 : List DV) =>
      optAll ((dInt IntKind.i64 r0 0)) fun (z1 : Int) =>
      optAll ((dInt IntKind.i64 r0 1)) fun (z2 : Int) =>
      needs ((0 : Int) ≤ x13) (
      optAll ((x1)[(Int.toNat x13)]?) fun (r3 : List DV) =>
      optAll ((dInt IntKind.i64 r3 0)) fun (z4 : Int) =>
      optAll ((dInt IntKind.i64 r3 1)) fun (z5 : Int) =>
      cond ((!((z1 == z4) && ((z2 == z5) && true)))) (
        c = (false, ())) (
        H5 x0 x1 x12 (IntKind.i64.wrap (x13 + (1 : Int))) c)))) (
      c = (true, ()))) : H5 x0 x1 x12 x13 c := head_rule (n := 400) (noSum_ok _) (by kernel_rfl) h
end slices_Equal_api_Key_api_Key
/-! slices.Equal[[]int,int] -/
namespace slices_Equal_int_int
def lv : Live := [((5, 1048576), [0, 1, 12, 13], [])]
abbrev H5 (x0 : List (List DV)) (x1 : List (List DV)) (x12 : Int) (x13 : Int) (c : (Bool × Unit)) : Prop := HeadAns cfg 67 sh lv (bd cfg 67 [1, 1, 0, 1, 0, 0]) 1048576 [.inBlock 0, .code (bd cfg 67 [1, 1, 1])]
  [(AV.d (DV.lst 1 x0)), (AV.d (DV.lst 1 x1)), (AV.d (DV.v (Value.int IntKind.i64 x12))), (AV.d (DV.v (Value.int IntKind.i64 x13)))] [] 1048576 c
theorem start (a0 : List (List DV)) (a1 : List (List DV)) (c : (Bool × Unit)) (h :
    cond (((((a0).length : Nat) : Int) != (((a1).length : Nat) : Int))) (
      c = (false, ())) (
      H5 a0 a1 (((a0).length : Nat) : Int) (0 : Int) c)) : R a0 a1 = some c := start_rule (n := 400) (lv := lv) (noSum_ok _) (by kernel_rfl) h
theorem H5_step (x0 : List (List DV)) (x1 : List (List DV)) (x12 : Int) (x13 : Int) (c : (Bool × Unit)) (h :
    cond (decide ((x13 < x12))) (
      needs ((0 : Int) ≤ x13) (
      optAll ((x0)[(Int.toNat x13)]?) fun (r0 : List DV) =>
      optAll ((dInt IntKind.i64 r0 0)) fun (z1 : Int) =>
      needs ((0 : Int) ≤ x13) (
      optAll ((x1)[(Int.toNat x13)]?) fun (r2 : List DV) =>
      optAll ((dInt IntKind.i64 r2 0)) fun (z3 : Int) =>
      cond ((z1 != z3)) (
        c = (false, ())) (
        H5 x0 x1 x12 (IntKind.i64.wrap (x13 + (1 : Int))) c)))) (
      c = (true, ()))) : H5 x0 x1 x12 x13 c := head_rule (n := 400) (noSum_ok _) (by kernel_rfl) h
end slices_Equal_int_int
/-! slices.Contains[[]int,int] -/
namespace slices_Contains_int_int
def lv : Live := []
theorem start (a0 : List (List DV)) (a1 : Int) (c : (Bool × Unit)) (h :
    optAll (slices_Index_int_int.R a0 a1) fun (c0 : (Int × Unit)) =>
    c = (decide (((c0).1 ≥ (0 : Int))), ())) : R a0 a1 = some c := start_rule (n := 400) (lv := lv) (noSum_ok _) (by kernel_rfl) h
end slices_Contains_int_int
/-! slices.Index[[]int,int] -/
namespace slices_Index_int_int
def lv : Live := [((3, 1048576), [0, 1, 7, 8], [])]
abbrev H3 (x0 : List (List DV)) (x1 : Int) (x7 : Int) (x8 : Int) (c : (Int × Unit)) : Prop := HeadAns cfg 86 sh lv (bd cfg 86 [1, 0, 1, 0, 0]) 1048576 [.inBlock 0, .code (bd cfg 86 [1, 1])]
  [(AV.d (DV.lst 1 x0)), (AV.d (DV.v (Value.int IntKind.i64 x1))), (AV.d (DV.v (Value.int IntKind.i64 x7))), (AV.d (DV.v (Value.int IntKind.i64 x8)))] [] 1048576 c
theorem start (a0 : List (List DV)) (a1 : Int) (c : (Int × Unit)) (h :
    H3 a0 a1 (((a0).length : Nat) : Int) (0 : Int) c) : R a0 a1 = some c := start_rule (n := 400) (lv := lv) (noSum_ok _) (by kernel_rfl) h
theorem H3_step (x0 : List (List DV)) (x1 : Int) (x7 : Int) (x8 : Int) (c : (Int × Unit)) (h :
    cond (decide ((x8 < x7))) (
      needs ((0 : Int) ≤ x8) (
      optAll ((x0)[(Int.toNat x8)]?) fun (r0 : List DV) =>
      optAll ((dInt IntKind.i64 r0 0)) fun (z1 : Int) =>
      cond ((x1 == z1)) (
        c = (x8, ())) (
        H3 x0 x1 x7 (IntKind.i64.wrap (x8 + (1 : Int))) c))) (
      c = ((-1 : Int), ()))) : H3 x0 x1 x7 x8 c := head_rule (n := 400) (noSum_ok _) (by kernel_rfl) h
end slices_Index_int_int
end Go.AI
