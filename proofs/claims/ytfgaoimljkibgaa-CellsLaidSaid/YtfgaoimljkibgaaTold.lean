/-
  Own work: printed by Tell, a program of this work: what each function's body does over symbols.
-/
import Derived.Test.YtfgaoimljkibgaaCfg
import Derived.KernelRfl
namespace Go.AI
open Go
set_option maxRecDepth 100000
set_option linter.unusedVariables false
set_option linter.unusedSimpArgs false
/-! garrison/garrisonlaw04.CellsApply -/
namespace law04_CellsApply
abbrev sh : List Sh := [.one (.bool)]
noncomputable abbrev R (a0 : List (List DV)) (a1_0 : Int) (a1_1 : Int) (a1_2 : Int) (a1_3 : Int) (a1_4 : Int) : Option (Bool × Unit) := retω cfg sh 3 [(AV.d (DV.lst 1 a0)), (AV.agg [(AV.d (DV.v (Value.int IntKind.i64 a1_0))), (AV.d (DV.v (Value.int IntKind.i64 a1_1))), (AV.d (DV.v (Value.int IntKind.i64 a1_2))), (AV.d (DV.v (Value.int IntKind.i64 a1_3))), (AV.d (DV.v (Value.int IntKind.i64 a1_4)))])]
end law04_CellsApply
/-! garrison/garrisonlaw04.CellsLocks -/
namespace law04_CellsLocks
abbrev sh : List Sh := [.one (.bool)]
noncomputable abbrev R (a0 : List (List DV)) : Option (Bool × Unit) := retω cfg sh 4 [(AV.d (DV.lst 5 a0))]
end law04_CellsLocks
/-! garrison/garrisonlaw04.CellsOnce -/
namespace law04_CellsOnce
abbrev sh : List Sh := [.one (.bool)]
noncomputable abbrev R (a0 : List (List DV)) (a1_0 : Int) (a1_1 : Int) (a1_2 : Int) (a1_3 : Int) (a1_4 : Int) : Option (Bool × Unit) := retω cfg sh 5 [(AV.d (DV.lst 1 a0)), (AV.agg [(AV.d (DV.v (Value.int IntKind.i64 a1_0))), (AV.d (DV.v (Value.int IntKind.i64 a1_1))), (AV.d (DV.v (Value.int IntKind.i64 a1_2))), (AV.d (DV.v (Value.int IntKind.i64 a1_3))), (AV.d (DV.v (Value.int IntKind.i64 a1_4)))])]
end law04_CellsOnce
/-! garrison/garrisonlaw04.CellsApart -/
namespace law04_CellsApart
abbrev sh : List Sh := [.one (.bool)]
noncomputable abbrev R (a0 : List (List DV)) (a1_0 : Int) (a1_1 : Int) (a1_2 : Int) (a1_3 : Int) (a1_4 : Int) (a2_0 : Int) (a2_1 : Int) (a2_2 : Int) (a2_3 : Int) (a2_4 : Int) : Option (Bool × Unit) := retω cfg sh 6 [(AV.d (DV.lst 1 a0)), (AV.agg [(AV.d (DV.v (Value.int IntKind.i64 a1_0))), (AV.d (DV.v (Value.int IntKind.i64 a1_1))), (AV.d (DV.v (Value.int IntKind.i64 a1_2))), (AV.d (DV.v (Value.int IntKind.i64 a1_3))), (AV.d (DV.v (Value.int IntKind.i64 a1_4)))]), (AV.agg [(AV.d (DV.v (Value.int IntKind.i64 a2_0))), (AV.d (DV.v (Value.int IntKind.i64 a2_1))), (AV.d (DV.v (Value.int IntKind.i64 a2_2))), (AV.d (DV.v (Value.int IntKind.i64 a2_3))), (AV.d (DV.v (Value.int IntKind.i64 a2_4)))])]
end law04_CellsApart
/-! garrison/garrisonlaw04.CellsTrace -/
namespace law04_CellsTrace
abbrev sh : List Sh := [.one (.bool)]
noncomputable abbrev R (a0 : Int) (a1 : List (List DV)) : Option (Bool × Unit) := retω cfg sh 7 [(AV.d (DV.v (Value.int IntKind.i64 a0))), (AV.d (DV.lst 5 a1))]
end law04_CellsTrace
/-! garrison/garrisonlaw04.CellsRuns -/
namespace law04_CellsRuns
abbrev sh : List Sh := [.one (.bool)]
noncomputable abbrev R (a0 : Int) (a1 : List (List DV)) : Option (Bool × Unit) := retω cfg sh 8 [(AV.d (DV.v (Value.int IntKind.i64 a0))), (AV.d (DV.lst 5 a1))]
end law04_CellsRuns
/-! garrison/garrisonlaw04.CellsMany -/
namespace law04_CellsMany
abbrev sh : List Sh := [.one (.bool)]
noncomputable abbrev R (a0 : Int) (a1_0 : Int) (a1_1 : Int) (a1_2 : Int) (a1_3 : Int) (a1_4 : Int) : Option (Bool × Unit) := retω cfg sh 9 [(AV.d (DV.v (Value.int IntKind.i64 a0))), (AV.agg [(AV.d (DV.v (Value.int IntKind.i64 a1_0))), (AV.d (DV.v (Value.int IntKind.i64 a1_1))), (AV.d (DV.v (Value.int IntKind.i64 a1_2))), (AV.d (DV.v (Value.int IntKind.i64 a1_3))), (AV.d (DV.v (Value.int IntKind.i64 a1_4)))])]
end law04_CellsMany
/-! garrison/garrisonlaw04.CellsLaid -/
namespace law04_CellsLaid
abbrev sh : List Sh := [.one (.bool)]
noncomputable abbrev R (a0 : List (List DV)) (a1 : List (List DV)) (a2 : List (List DV)) (a3 : Int) : Option (Bool × Unit) := retω cfg sh 10 [(AV.d (DV.lst 1 a0)), (AV.d (DV.lst 1 a1)), (AV.d (DV.lst 5 a2)), (AV.d (DV.v (Value.int IntKind.i64 a3)))]
end law04_CellsLaid
/-! garrison/garrisonlaw04.live -/
namespace law04_live
abbrev sh : List Sh := [.one (.bool)]
noncomputable abbrev R : Option (Bool × Unit) := retω cfg sh 11 []
end law04_live
/-! garrison/cells.Apply -/
namespace cells_Apply
abbrev sh : List Sh := [.one (.lst 1), .agg [.int .i64, .int .i64, .int .i64, .int .i64, .int .i64, .int .i64, .bool]]
noncomputable abbrev R (a0 : List (List DV)) (a1_0 : Int) (a1_1 : Int) (a1_2 : Int) (a1_3 : Int) (a1_4 : Int) : Option (List (List DV) × ((Int × (Int × (Int × (Int × (Int × (Int × (Bool × Unit))))))) × Unit)) := retω cfg sh 12 [(AV.d (DV.lst 1 a0)), (AV.agg [(AV.d (DV.v (Value.int IntKind.i64 a1_0))), (AV.d (DV.v (Value.int IntKind.i64 a1_1))), (AV.d (DV.v (Value.int IntKind.i64 a1_2))), (AV.d (DV.v (Value.int IntKind.i64 a1_3))), (AV.d (DV.v (Value.int IntKind.i64 a1_4)))])]
end cells_Apply
/-! garrison/garrisonref04.Apply -/
namespace ref04_Apply
abbrev sh : List Sh := [.one (.lst 1), .agg [.int .i64, .int .i64, .int .i64, .int .i64, .int .i64, .int .i64, .bool]]
noncomputable abbrev R (a0 : List (List DV)) (a1_0 : Int) (a1_1 : Int) (a1_2 : Int) (a1_3 : Int) (a1_4 : Int) : Option (List (List DV) × ((Int × (Int × (Int × (Int × (Int × (Int × (Bool × Unit))))))) × Unit)) := retω cfg sh 13 [(AV.d (DV.lst 1 a0)), (AV.agg [(AV.d (DV.v (Value.int IntKind.i64 a1_0))), (AV.d (DV.v (Value.int IntKind.i64 a1_1))), (AV.d (DV.v (Value.int IntKind.i64 a1_2))), (AV.d (DV.v (Value.int IntKind.i64 a1_3))), (AV.d (DV.v (Value.int IntKind.i64 a1_4)))])]
end ref04_Apply
/-! garrison/garrisonref04.Values -/
namespace ref04_Values
abbrev sh : List Sh := [.one (.bool)]
noncomputable abbrev R (a0 : List (List DV)) (a1 : List (List DV)) : Option (Bool × Unit) := retω cfg sh 14 [(AV.d (DV.lst 1 a0)), (AV.d (DV.lst 1 a1))]
end ref04_Values
/-! garrison/garrisonlaw04.small -/
namespace law04_small
abbrev sh : List Sh := [.one (.bool)]
noncomputable abbrev R (a0 : List (List DV)) : Option (Bool × Unit) := retω cfg sh 15 [(AV.d (DV.lst 5 a0))]
end law04_small
/-! garrison/garrisonlaw04.num -/
namespace law04_num
abbrev sh : List Sh := [.one (.int .i64)]
noncomputable abbrev R (a0 : Int) : Option (Int × Unit) := retω cfg sh 17 [(AV.d (DV.v (Value.int IntKind.i64 a0)))]
end law04_num
/-! garrison/cells.Check -/
namespace cells_Check
abbrev sh : List Sh := [.one (.int .i64)]
noncomputable abbrev R (a0_0 : Int) (a0_1 : Int) (a0_2 : Int) (a0_3 : Int) (a0_4 : Int) (a1 : Int) : Option (Int × Unit) := retω cfg sh 19 [(AV.agg [(AV.d (DV.v (Value.int IntKind.i64 a0_0))), (AV.d (DV.v (Value.int IntKind.i64 a0_1))), (AV.d (DV.v (Value.int IntKind.i64 a0_2))), (AV.d (DV.v (Value.int IntKind.i64 a0_3))), (AV.d (DV.v (Value.int IntKind.i64 a0_4)))]), (AV.d (DV.v (Value.int IntKind.i64 a1)))]
end cells_Check
/-! garrison/cells.step -/
namespace cells_step
abbrev sh : List Sh := [.agg [.int .i64, .int .i64, .int .i64, .int .i64, .int .i64, .int .i64, .bool]]
noncomputable abbrev R (n : Int) (a0_0 : Int) (a0_1 : Int) (a0_2 : Int) (a0_3 : Int) (a0_4 : Int) : Option ((((Int × (Int × (Int × (Int × (Int × (Int × (Bool × Unit))))))) × Unit) × Int)) := cellT cfg sh 30 n [(AV.agg [(AV.d (DV.v (Value.int IntKind.i64 a0_0))), (AV.d (DV.v (Value.int IntKind.i64 a0_1))), (AV.d (DV.v (Value.int IntKind.i64 a0_2))), (AV.d (DV.v (Value.int IntKind.i64 a0_3))), (AV.d (DV.v (Value.int IntKind.i64 a0_4)))])]
end cells_step
/-! garrison/garrisonref04.Zero -/
namespace ref04_Zero
abbrev sh : List Sh := [.one (.lst 1)]
noncomputable abbrev R (a0 : Int) : Option (List (List DV) × Unit) := retω cfg sh 20 [(AV.d (DV.v (Value.int IntKind.i64 a0)))]
end ref04_Zero
/-! garrison/garrisonref04.Is -/
namespace ref04_Is
abbrev sh : List Sh := [.one (.bool)]
noncomputable abbrev R (a0_0 : Int) (a0_1 : Int) (a0_2 : Int) (a0_3 : Int) (a0_4 : Int) (a1 : Int) : Option (Bool × Unit) := retω cfg sh 24 [(AV.agg [(AV.d (DV.v (Value.int IntKind.i64 a0_0))), (AV.d (DV.v (Value.int IntKind.i64 a0_1))), (AV.d (DV.v (Value.int IntKind.i64 a0_2))), (AV.d (DV.v (Value.int IntKind.i64 a0_3))), (AV.d (DV.v (Value.int IntKind.i64 a0_4)))]), (AV.d (DV.v (Value.int IntKind.i64 a1)))]
end ref04_Is
/-! garrison/garrisonref04.Recs -/
namespace ref04_Recs
abbrev sh : List Sh := [.one (.bool)]
noncomputable abbrev R (a0 : List (List DV)) (a1 : List (List DV)) : Option (Bool × Unit) := retω cfg sh 26 [(AV.d (DV.lst 7 a0)), (AV.d (DV.lst 7 a1))]
end ref04_Recs
/-! garrison/garrisonlaw04.CellsApply -/
namespace law04_CellsApply
def lv : Live := []
theorem start (a0 : List (List DV)) (a1_0 : Int) (a1_1 : Int) (a1_2 : Int) (a1_3 : Int) (a1_4 : Int) (c : (Bool × Unit)) (h :
    cond (decide (((((a0).length : Nat) : Int) > (100 : Int)))) (
      optAll (law04_live.R) fun (c0 : (Bool × Unit)) =>
      c = ((c0).1, ())) (
      needs ((((a0).length * 8) ≤ 140737488355328) ∧ (((a0).length * 1) ≤ 140737488355328)) (
      optAll (cells_Apply.R ((a0).take ((a0).length)) a1_0 a1_1 a1_2 a1_3 a1_4) fun (c1 : (List (List DV) × ((Int × (Int × (Int × (Int × (Int × (Int × (Bool × Unit))))))) × Unit))) =>
      optAll (ref04_Apply.R a0 a1_0 a1_1 a1_2 a1_3 a1_4) fun (c2 : (List (List DV) × ((Int × (Int × (Int × (Int × (Int × (Int × (Bool × Unit))))))) × Unit))) =>
      optAll (ref04_Values.R (c1).1 (c2).1) fun (c3 : (Bool × Unit)) =>
      cond ((c3).1) (
        cond ((((((c1).2).1).1 == (((c2).2).1).1) && ((((((c1).2).1).2).1 == ((((c2).2).1).2).1) && (((((((c1).2).1).2).2).1 == (((((c2).2).1).2).2).1) && ((((((((c1).2).1).2).2).2).1 == ((((((c2).2).1).2).2).2).1) && (((((((((c1).2).1).2).2).2).2).1 == (((((((c2).2).1).2).2).2).2).1) && ((((((((((c1).2).1).2).2).2).2).2).1 == ((((((((c2).2).1).2).2).2).2).2).1) && (((((((((((c1).2).1).2).2).2).2).2).2).1 == (((((((((c2).2).1).2).2).2).2).2).2).1) && true)))))))) (
          optAll (ref04_Values.R ((a0).take ((a0).length)) a0) fun (c4 : (Bool × Unit)) =>
          cond ((c4).1) (
            optAll (law04_live.R) fun (c5 : (Bool × Unit)) =>
            c = ((c5).1, ())) (
            c = (false, ()))) (
          c = (false, ()))) (
        c = (false, ()))))) : R a0 a1_0 a1_1 a1_2 a1_3 a1_4 = some c := start_rule (n := 400) (lv := lv) (noSum_ok _) (by kernel_rfl) h
end law04_CellsApply
/-! garrison/garrisonlaw04.CellsLocks -/
namespace law04_CellsLocks
def lv : Live := [((9, 1048576), [0, 3, 5, 6], [346, 314, 347])]
abbrev H9 (x0 : List (List DV)) (x5 : Int) (x6 : Int) (b346 : Nat) (b346_1 : Int) (b347 : List (List DV)) (b314 : List (List DV)) (c : (Bool × Unit)) : Prop := HeadAns cfg 4 sh lv (bd cfg 4 [1, 1, 1, 1, 1, 0, 1, 0, 0]) 1048576 [.inBlock 0, .code (bd cfg 4 [1, 1, 1, 1, 1, 1])]
  [(AV.d (DV.lst 5 x0)), (AV.ptr 346 0 0 0), (AV.d (DV.v (Value.int IntKind.i64 x5))), (AV.d (DV.v (Value.int IntKind.i64 x6)))] [(Option.some (VBlk.cell 3 0 [(AV.ref 314 0 0 b346), (AV.d (DV.v (Value.int IntKind.i64 b346_1))), (AV.ref 347 0 0 (List.length b347))])), (Option.some (VBlk.drow 1 0 b314)), (Option.some (VBlk.drow 7 0 b347))] 1048576 c
theorem start (a0 : List (List DV)) (c : (Bool × Unit)) (h :
    optAll (law04_small.R a0) fun (c0 : (Bool × Unit)) =>
    cond ((!(c0).1)) (
      optAll (law04_live.R) fun (c1 : (Bool × Unit)) =>
      c = ((c1).1, ())) (
      optAll (law04_num.R (0 : Int)) fun (c2 : (Int × Unit)) =>
      cond (((c2).1 != (0 : Int))) (
        c = (false, ())) (
        H9 a0 (0 : Int) (0 : Int) 1 (0 : Int) [] (List.replicate (1) [(DV.v (Value.int IntKind.i64 (0 : Int)))]) c))) : R a0 = some c := start_rule (n := 400) (lv := lv) (noSum_ok _) (by kernel_rfl) h
theorem H9_step (x0 : List (List DV)) (x5 : Int) (x6 : Int) (b346 : Nat) (b346_1 : Int) (b347 : List (List DV)) (b314 : List (List DV)) (c : (Bool × Unit)) (h :
    cond (decide ((x6 < (((x0).length : Nat) : Int)))) (
      needs ((0 : Int) ≤ x6) (
      optAll ((x0)[(Int.toNat x6)]?) fun (r3 : List DV) =>
      optAll ((dInt IntKind.i64 r3 0)) fun (z4 : Int) =>
      optAll ((dInt IntKind.i64 r3 1)) fun (z5 : Int) =>
      optAll ((dInt IntKind.i64 r3 2)) fun (z6 : Int) =>
      optAll ((dInt IntKind.i64 r3 3)) fun (z7 : Int) =>
      optAll ((dInt IntKind.i64 r3 4)) fun (z8 : Int) =>
      cond ((z4 != (4 : Int))) (
        cond ((z4 != (5 : Int))) (
          H9 x0 x5 (IntKind.i64.wrap (x6 + (1 : Int))) b346 b346_1 b347 b314 c) (
          cond (decide ((z8 < (1 : Int)))) (
            H9 x0 x5 (IntKind.i64.wrap (x6 + (1 : Int))) b346 b346_1 b347 b314 c) (
            optAll (cells_Check.R z4 (0 : Int) z6 z7 z8 ((b346 : Nat) : Int)) fun (c9 : (Int × Unit)) =>
            cond (((c9).1 != (0 : Int))) (
              cond (((0 : Int) != x5)) (
                c = (false, ())) (
                cond ((z4 == (4 : Int))) (
                  cond ((x5 == (0 : Int))) (
                    c = (false, ())) (
                    cond ((z4 == (5 : Int))) (
                      cond ((!(false == (x5 == z8)))) (
                        c = (false, ())) (
                        H9 x0 x5 (IntKind.i64.wrap (x6 + (1 : Int))) b346 b346_1 b347 b314 c)) (
                      H9 x0 x5 (IntKind.i64.wrap (x6 + (1 : Int))) b346 b346_1 b347 b314 c))) (
                  cond ((z4 == (5 : Int))) (
                    cond ((!(false == (x5 == z8)))) (
                      c = (false, ())) (
                      H9 x0 x5 (IntKind.i64.wrap (x6 + (1 : Int))) b346 b346_1 b347 b314 c)) (
                    H9 x0 x5 (IntKind.i64.wrap (x6 + (1 : Int))) b346 b346_1 b347 b314 c)))) (
              needs (((0 : Int) ≤ (0 : Int)) ∧ ((0 : Int) < ((b346 : Nat) : Int))) (
              optAll ((b314)[0]?) fun (r10 : List DV) =>
              optAll ((dInt IntKind.i64 r10 0)) fun (z11 : Int) =>
              optAll (cells_step.R z11 z4 (0 : Int) z6 z7 z8) fun (c12 : (((Int × (Int × (Int × (Int × (Int × (Int × (Bool × Unit))))))) × Unit) × Int)) =>
              cond (decide (((((b347).length : Nat) : Int) < (2000 : Int)))) (
                needs ((b347).length = (b347).length) (
                needs (((((b347 ++ (([[(DV.v (Value.int IntKind.i64 (((c12).1).1).1)), (DV.v (Value.int IntKind.i64 ((((c12).1).1).2).1)), (DV.v (Value.int IntKind.i64 (((((c12).1).1).2).2).1)), (DV.v (Value.int IntKind.i64 ((((((c12).1).1).2).2).2).1)), (DV.v (Value.int IntKind.i64 (((((((c12).1).1).2).2).2).2).1)), (DV.v (Value.int IntKind.i64 ((((((((c12).1).1).2).2).2).2).2).1)), (DV.v (Value.bool (((((((((c12).1).1).2).2).2).2).2).2).1))]]).take (1)))).length * 56) ≤ 140737488355328) ∧ ((((b347 ++ (([[(DV.v (Value.int IntKind.i64 (((c12).1).1).1)), (DV.v (Value.int IntKind.i64 ((((c12).1).1).2).1)), (DV.v (Value.int IntKind.i64 (((((c12).1).1).2).2).1)), (DV.v (Value.int IntKind.i64 ((((((c12).1).1).2).2).2).1)), (DV.v (Value.int IntKind.i64 (((((((c12).1).1).2).2).2).2).1)), (DV.v (Value.int IntKind.i64 ((((((((c12).1).1).2).2).2).2).2).1)), (DV.v (Value.bool (((((((((c12).1).1).2).2).2).2).2).2).1))]]).take (1)))).length * 7) ≤ 140737488355328)) (
                cond ((((((((((c12).1).1).2).2).2).2).2).1 != x5)) (
                  c = (false, ())) (
                  cond ((z4 == (4 : Int))) (
                    cond ((x5 == (0 : Int))) (
                      cond ((!((((((((((c12).1).1).2).2).2).2).2).2).1 == true))) (
                        c = (false, ())) (
                        cond ((((((((((c12).1).1).2).2).2).2).2).2).1) (
                          cond ((z4 == (4 : Int))) (
                            H9 x0 z8 (IntKind.i64.wrap (x6 + (1 : Int))) b346 (IntKind.i64.wrap (b346_1 + (1 : Int))) (b347 ++ (([[(DV.v (Value.int IntKind.i64 (((c12).1).1).1)), (DV.v (Value.int IntKind.i64 ((((c12).1).1).2).1)), (DV.v (Value.int IntKind.i64 (((((c12).1).1).2).2).1)), (DV.v (Value.int IntKind.i64 ((((((c12).1).1).2).2).2).1)), (DV.v (Value.int IntKind.i64 (((((((c12).1).1).2).2).2).2).1)), (DV.v (Value.int IntKind.i64 ((((((((c12).1).1).2).2).2).2).2).1)), (DV.v (Value.bool (((((((((c12).1).1).2).2).2).2).2).2).1))]]).take (1))) ((b314).set (0) (putD r10 0 [(DV.v (Value.int IntKind.i64 (c12).2))])) c) (
                            cond ((((((((((c12).1).1).2).2).2).2).2).2).1) (
                              H9 x0 (0 : Int) (IntKind.i64.wrap (x6 + (1 : Int))) b346 (IntKind.i64.wrap (b346_1 + (1 : Int))) (b347 ++ (([[(DV.v (Value.int IntKind.i64 (((c12).1).1).1)), (DV.v (Value.int IntKind.i64 ((((c12).1).1).2).1)), (DV.v (Value.int IntKind.i64 (((((c12).1).1).2).2).1)), (DV.v (Value.int IntKind.i64 ((((((c12).1).1).2).2).2).1)), (DV.v (Value.int IntKind.i64 (((((((c12).1).1).2).2).2).2).1)), (DV.v (Value.int IntKind.i64 ((((((((c12).1).1).2).2).2).2).2).1)), (DV.v (Value.bool (((((((((c12).1).1).2).2).2).2).2).2).1))]]).take (1))) ((b314).set (0) (putD r10 0 [(DV.v (Value.int IntKind.i64 (c12).2))])) c) (
                              H9 x0 x5 (IntKind.i64.wrap (x6 + (1 : Int))) b346 (IntKind.i64.wrap (b346_1 + (1 : Int))) (b347 ++ (([[(DV.v (Value.int IntKind.i64 (((c12).1).1).1)), (DV.v (Value.int IntKind.i64 ((((c12).1).1).2).1)), (DV.v (Value.int IntKind.i64 (((((c12).1).1).2).2).1)), (DV.v (Value.int IntKind.i64 ((((((c12).1).1).2).2).2).1)), (DV.v (Value.int IntKind.i64 (((((((c12).1).1).2).2).2).2).1)), (DV.v (Value.int IntKind.i64 ((((((((c12).1).1).2).2).2).2).2).1)), (DV.v (Value.bool (((((((((c12).1).1).2).2).2).2).2).2).1))]]).take (1))) ((b314).set (0) (putD r10 0 [(DV.v (Value.int IntKind.i64 (c12).2))])) c))) (
                          cond ((((((((((c12).1).1).2).2).2).2).2).2).1) (
                            H9 x0 (0 : Int) (IntKind.i64.wrap (x6 + (1 : Int))) b346 (IntKind.i64.wrap (b346_1 + (1 : Int))) (b347 ++ (([[(DV.v (Value.int IntKind.i64 (((c12).1).1).1)), (DV.v (Value.int IntKind.i64 ((((c12).1).1).2).1)), (DV.v (Value.int IntKind.i64 (((((c12).1).1).2).2).1)), (DV.v (Value.int IntKind.i64 ((((((c12).1).1).2).2).2).1)), (DV.v (Value.int IntKind.i64 (((((((c12).1).1).2).2).2).2).1)), (DV.v (Value.int IntKind.i64 ((((((((c12).1).1).2).2).2).2).2).1)), (DV.v (Value.bool (((((((((c12).1).1).2).2).2).2).2).2).1))]]).take (1))) ((b314).set (0) (putD r10 0 [(DV.v (Value.int IntKind.i64 (c12).2))])) c) (
                            H9 x0 x5 (IntKind.i64.wrap (x6 + (1 : Int))) b346 (IntKind.i64.wrap (b346_1 + (1 : Int))) (b347 ++ (([[(DV.v (Value.int IntKind.i64 (((c12).1).1).1)), (DV.v (Value.int IntKind.i64 ((((c12).1).1).2).1)), (DV.v (Value.int IntKind.i64 (((((c12).1).1).2).2).1)), (DV.v (Value.int IntKind.i64 ((((((c12).1).1).2).2).2).1)), (DV.v (Value.int IntKind.i64 (((((((c12).1).1).2).2).2).2).1)), (DV.v (Value.int IntKind.i64 ((((((((c12).1).1).2).2).2).2).2).1)), (DV.v (Value.bool (((((((((c12).1).1).2).2).2).2).2).2).1))]]).take (1))) ((b314).set (0) (putD r10 0 [(DV.v (Value.int IntKind.i64 (c12).2))])) c)))) (
                      cond ((z4 == (5 : Int))) (
                        cond ((!((((((((((c12).1).1).2).2).2).2).2).2).1 == (x5 == z8)))) (
                          c = (false, ())) (
                          cond ((((((((((c12).1).1).2).2).2).2).2).2).1) (
                            cond ((z4 == (4 : Int))) (
                              H9 x0 z8 (IntKind.i64.wrap (x6 + (1 : Int))) b346 (IntKind.i64.wrap (b346_1 + (1 : Int))) (b347 ++ (([[(DV.v (Value.int IntKind.i64 (((c12).1).1).1)), (DV.v (Value.int IntKind.i64 ((((c12).1).1).2).1)), (DV.v (Value.int IntKind.i64 (((((c12).1).1).2).2).1)), (DV.v (Value.int IntKind.i64 ((((((c12).1).1).2).2).2).1)), (DV.v (Value.int IntKind.i64 (((((((c12).1).1).2).2).2).2).1)), (DV.v (Value.int IntKind.i64 ((((((((c12).1).1).2).2).2).2).2).1)), (DV.v (Value.bool (((((((((c12).1).1).2).2).2).2).2).2).1))]]).take (1))) ((b314).set (0) (putD r10 0 [(DV.v (Value.int IntKind.i64 (c12).2))])) c) (
                              cond ((((((((((c12).1).1).2).2).2).2).2).2).1) (
                                H9 x0 (0 : Int) (IntKind.i64.wrap (x6 + (1 : Int))) b346 (IntKind.i64.wrap (b346_1 + (1 : Int))) (b347 ++ (([[(DV.v (Value.int IntKind.i64 (((c12).1).1).1)), (DV.v (Value.int IntKind.i64 ((((c12).1).1).2).1)), (DV.v (Value.int IntKind.i64 (((((c12).1).1).2).2).1)), (DV.v (Value.int IntKind.i64 ((((((c12).1).1).2).2).2).1)), (DV.v (Value.int IntKind.i64 (((((((c12).1).1).2).2).2).2).1)), (DV.v (Value.int IntKind.i64 ((((((((c12).1).1).2).2).2).2).2).1)), (DV.v (Value.bool (((((((((c12).1).1).2).2).2).2).2).2).1))]]).take (1))) ((b314).set (0) (putD r10 0 [(DV.v (Value.int IntKind.i64 (c12).2))])) c) (
                                H9 x0 x5 (IntKind.i64.wrap (x6 + (1 : Int))) b346 (IntKind.i64.wrap (b346_1 + (1 : Int))) (b347 ++ (([[(DV.v (Value.int IntKind.i64 (((c12).1).1).1)), (DV.v (Value.int IntKind.i64 ((((c12).1).1).2).1)), (DV.v (Value.int IntKind.i64 (((((c12).1).1).2).2).1)), (DV.v (Value.int IntKind.i64 ((((((c12).1).1).2).2).2).1)), (DV.v (Value.int IntKind.i64 (((((((c12).1).1).2).2).2).2).1)), (DV.v (Value.int IntKind.i64 ((((((((c12).1).1).2).2).2).2).2).1)), (DV.v (Value.bool (((((((((c12).1).1).2).2).2).2).2).2).1))]]).take (1))) ((b314).set (0) (putD r10 0 [(DV.v (Value.int IntKind.i64 (c12).2))])) c))) (
                            cond ((((((((((c12).1).1).2).2).2).2).2).2).1) (
                              H9 x0 (0 : Int) (IntKind.i64.wrap (x6 + (1 : Int))) b346 (IntKind.i64.wrap (b346_1 + (1 : Int))) (b347 ++ (([[(DV.v (Value.int IntKind.i64 (((c12).1).1).1)), (DV.v (Value.int IntKind.i64 ((((c12).1).1).2).1)), (DV.v (Value.int IntKind.i64 (((((c12).1).1).2).2).1)), (DV.v (Value.int IntKind.i64 ((((((c12).1).1).2).2).2).1)), (DV.v (Value.int IntKind.i64 (((((((c12).1).1).2).2).2).2).1)), (DV.v (Value.int IntKind.i64 ((((((((c12).1).1).2).2).2).2).2).1)), (DV.v (Value.bool (((((((((c12).1).1).2).2).2).2).2).2).1))]]).take (1))) ((b314).set (0) (putD r10 0 [(DV.v (Value.int IntKind.i64 (c12).2))])) c) (
                              H9 x0 x5 (IntKind.i64.wrap (x6 + (1 : Int))) b346 (IntKind.i64.wrap (b346_1 + (1 : Int))) (b347 ++ (([[(DV.v (Value.int IntKind.i64 (((c12).1).1).1)), (DV.v (Value.int IntKind.i64 ((((c12).1).1).2).1)), (DV.v (Value.int IntKind.i64 (((((c12).1).1).2).2).1)), (DV.v (Value.int IntKind.i64 ((((((c12).1).1).2).2).2).1)), (DV.v (Value.int IntKind.i64 (((((((c12).1).1).2).2).2).2).1)), (DV.v (Value.int IntKind.i64 ((((((((c12).1).1).2).2).2).2).2).1)), (DV.v (Value.bool (((((((((c12).1).1).2).2).2).2).2).2).1))]]).take (1))) ((b314).set (0) (putD r10 0 [(DV.v (Value.int IntKind.i64 (c12).2))])) c)))) (
                        cond ((!((((((((((c12).1).1).2).2).2).2).2).2).1 == false))) (
                          c = (false, ())) (
                          cond ((((((((((c12).1).1).2).2).2).2).2).2).1) (
                            cond ((z4 == (4 : Int))) (
                              H9 x0 z8 (IntKind.i64.wrap (x6 + (1 : Int))) b346 (IntKind.i64.wrap (b346_1 + (1 : Int))) (b347 ++ (([[(DV.v (Value.int IntKind.i64 (((c12).1).1).1)), (DV.v (Value.int IntKind.i64 ((((c12).1).1).2).1)), (DV.v (Value.int IntKind.i64 (((((c12).1).1).2).2).1)), (DV.v (Value.int IntKind.i64 ((((((c12).1).1).2).2).2).1)), (DV.v (Value.int IntKind.i64 (((((((c12).1).1).2).2).2).2).1)), (DV.v (Value.int IntKind.i64 ((((((((c12).1).1).2).2).2).2).2).1)), (DV.v (Value.bool (((((((((c12).1).1).2).2).2).2).2).2).1))]]).take (1))) ((b314).set (0) (putD r10 0 [(DV.v (Value.int IntKind.i64 (c12).2))])) c) (
                              cond ((((((((((c12).1).1).2).2).2).2).2).2).1) (
                                H9 x0 (0 : Int) (IntKind.i64.wrap (x6 + (1 : Int))) b346 (IntKind.i64.wrap (b346_1 + (1 : Int))) (b347 ++ (([[(DV.v (Value.int IntKind.i64 (((c12).1).1).1)), (DV.v (Value.int IntKind.i64 ((((c12).1).1).2).1)), (DV.v (Value.int IntKind.i64 (((((c12).1).1).2).2).1)), (DV.v (Value.int IntKind.i64 ((((((c12).1).1).2).2).2).1)), (DV.v (Value.int IntKind.i64 (((((((c12).1).1).2).2).2).2).1)), (DV.v (Value.int IntKind.i64 ((((((((c12).1).1).2).2).2).2).2).1)), (DV.v (Value.bool (((((((((c12).1).1).2).2).2).2).2).2).1))]]).take (1))) ((b314).set (0) (putD r10 0 [(DV.v (Value.int IntKind.i64 (c12).2))])) c) (
                                H9 x0 x5 (IntKind.i64.wrap (x6 + (1 : Int))) b346 (IntKind.i64.wrap (b346_1 + (1 : Int))) (b347 ++ (([[(DV.v (Value.int IntKind.i64 (((c12).1).1).1)), (DV.v (Value.int IntKind.i64 ((((c12).1).1).2).1)), (DV.v (Value.int IntKind.i64 (((((c12).1).1).2).2).1)), (DV.v (Value.int IntKind.i64 ((((((c12).1).1).2).2).2).1)), (DV.v (Value.int IntKind.i64 (((((((c12).1).1).2).2).2).2).1)), (DV.v (Value.int IntKind.i64 ((((((((c12).1).1).2).2).2).2).2).1)), (DV.v (Value.bool (((((((((c12).1).1).2).2).2).2).2).2).1))]]).take (1))) ((b314).set (0) (putD r10 0 [(DV.v (Value.int IntKind.i64 (c12).2))])) c))) (
                            cond ((((((((((c12).1).1).2).2).2).2).2).2).1) (
                              H9 x0 (0 : Int) (IntKind.i64.wrap (x6 + (1 : Int))) b346 (IntKind.i64.wrap (b346_1 + (1 : Int))) (b347 ++ (([[(DV.v (Value.int IntKind.i64 (((c12).1).1).1)), (DV.v (Value.int IntKind.i64 ((((c12).1).1).2).1)), (DV.v (Value.int IntKind.i64 (((((c12).1).1).2).2).1)), (DV.v (Value.int IntKind.i64 ((((((c12).1).1).2).2).2).1)), (DV.v (Value.int IntKind.i64 (((((((c12).1).1).2).2).2).2).1)), (DV.v (Value.int IntKind.i64 ((((((((c12).1).1).2).2).2).2).2).1)), (DV.v (Value.bool (((((((((c12).1).1).2).2).2).2).2).2).1))]]).take (1))) ((b314).set (0) (putD r10 0 [(DV.v (Value.int IntKind.i64 (c12).2))])) c) (
                              H9 x0 x5 (IntKind.i64.wrap (x6 + (1 : Int))) b346 (IntKind.i64.wrap (b346_1 + (1 : Int))) (b347 ++ (([[(DV.v (Value.int IntKind.i64 (((c12).1).1).1)), (DV.v (Value.int IntKind.i64 ((((c12).1).1).2).1)), (DV.v (Value.int IntKind.i64 (((((c12).1).1).2).2).1)), (DV.v (Value.int IntKind.i64 ((((((c12).1).1).2).2).2).1)), (DV.v (Value.int IntKind.i64 (((((((c12).1).1).2).2).2).2).1)), (DV.v (Value.int IntKind.i64 ((((((((c12).1).1).2).2).2).2).2).1)), (DV.v (Value.bool (((((((((c12).1).1).2).2).2).2).2).2).1))]]).take (1))) ((b314).set (0) (putD r10 0 [(DV.v (Value.int IntKind.i64 (c12).2))])) c)))))) (
                    cond ((z4 == (5 : Int))) (
                      cond ((!((((((((((c12).1).1).2).2).2).2).2).2).1 == (x5 == z8)))) (
                        c = (false, ())) (
                        cond ((((((((((c12).1).1).2).2).2).2).2).2).1) (
                          cond ((z4 == (4 : Int))) (
                            H9 x0 z8 (IntKind.i64.wrap (x6 + (1 : Int))) b346 (IntKind.i64.wrap (b346_1 + (1 : Int))) (b347 ++ (([[(DV.v (Value.int IntKind.i64 (((c12).1).1).1)), (DV.v (Value.int IntKind.i64 ((((c12).1).1).2).1)), (DV.v (Value.int IntKind.i64 (((((c12).1).1).2).2).1)), (DV.v (Value.int IntKind.i64 ((((((c12).1).1).2).2).2).1)), (DV.v (Value.int IntKind.i64 (((((((c12).1).1).2).2).2).2).1)), (DV.v (Value.int IntKind.i64 ((((((((c12).1).1).2).2).2).2).2).1)), (DV.v (Value.bool (((((((((c12).1).1).2).2).2).2).2).2).1))]]).take (1))) ((b314).set (0) (putD r10 0 [(DV.v (Value.int IntKind.i64 (c12).2))])) c) (
                            cond ((((((((((c12).1).1).2).2).2).2).2).2).1) (
                              H9 x0 (0 : Int) (IntKind.i64.wrap (x6 + (1 : Int))) b346 (IntKind.i64.wrap (b346_1 + (1 : Int))) (b347 ++ (([[(DV.v (Value.int IntKind.i64 (((c12).1).1).1)), (DV.v (Value.int IntKind.i64 ((((c12).1).1).2).1)), (DV.v (Value.int IntKind.i64 (((((c12).1).1).2).2).1)), (DV.v (Value.int IntKind.i64 ((((((c12).1).1).2).2).2).1)), (DV.v (Value.int IntKind.i64 (((((((c12).1).1).2).2).2).2).1)), (DV.v (Value.int IntKind.i64 ((((((((c12).1).1).2).2).2).2).2).1)), (DV.v (Value.bool (((((((((c12).1).1).2).2).2).2).2).2).1))]]).take (1))) ((b314).set (0) (putD r10 0 [(DV.v (Value.int IntKind.i64 (c12).2))])) c) (
                              H9 x0 x5 (IntKind.i64.wrap (x6 + (1 : Int))) b346 (IntKind.i64.wrap (b346_1 + (1 : Int))) (b347 ++ (([[(DV.v (Value.int IntKind.i64 (((c12).1).1).1)), (DV.v (Value.int IntKind.i64 ((((c12).1).1).2).1)), (DV.v (Value.int IntKind.i64 (((((c12).1).1).2).2).1)), (DV.v (Value.int IntKind.i64 ((((((c12).1).1).2).2).2).1)), (DV.v (Value.int IntKind.i64 (((((((c12).1).1).2).2).2).2).1)), (DV.v (Value.int IntKind.i64 ((((((((c12).1).1).2).2).2).2).2).1)), (DV.v (Value.bool (((((((((c12).1).1).2).2).2).2).2).2).1))]]).take (1))) ((b314).set (0) (putD r10 0 [(DV.v (Value.int IntKind.i64 (c12).2))])) c))) (
                          cond ((((((((((c12).1).1).2).2).2).2).2).2).1) (
                            H9 x0 (0 : Int) (IntKind.i64.wrap (x6 + (1 : Int))) b346 (IntKind.i64.wrap (b346_1 + (1 : Int))) (b347 ++ (([[(DV.v (Value.int IntKind.i64 (((c12).1).1).1)), (DV.v (Value.int IntKind.i64 ((((c12).1).1).2).1)), (DV.v (Value.int IntKind.i64 (((((c12).1).1).2).2).1)), (DV.v (Value.int IntKind.i64 ((((((c12).1).1).2).2).2).1)), (DV.v (Value.int IntKind.i64 (((((((c12).1).1).2).2).2).2).1)), (DV.v (Value.int IntKind.i64 ((((((((c12).1).1).2).2).2).2).2).1)), (DV.v (Value.bool (((((((((c12).1).1).2).2).2).2).2).2).1))]]).take (1))) ((b314).set (0) (putD r10 0 [(DV.v (Value.int IntKind.i64 (c12).2))])) c) (
                            H9 x0 x5 (IntKind.i64.wrap (x6 + (1 : Int))) b346 (IntKind.i64.wrap (b346_1 + (1 : Int))) (b347 ++ (([[(DV.v (Value.int IntKind.i64 (((c12).1).1).1)), (DV.v (Value.int IntKind.i64 ((((c12).1).1).2).1)), (DV.v (Value.int IntKind.i64 (((((c12).1).1).2).2).1)), (DV.v (Value.int IntKind.i64 ((((((c12).1).1).2).2).2).1)), (DV.v (Value.int IntKind.i64 (((((((c12).1).1).2).2).2).2).1)), (DV.v (Value.int IntKind.i64 ((((((((c12).1).1).2).2).2).2).2).1)), (DV.v (Value.bool (((((((((c12).1).1).2).2).2).2).2).2).1))]]).take (1))) ((b314).set (0) (putD r10 0 [(DV.v (Value.int IntKind.i64 (c12).2))])) c)))) (
                      cond ((!((((((((((c12).1).1).2).2).2).2).2).2).1 == false))) (
                        c = (false, ())) (
                        cond ((((((((((c12).1).1).2).2).2).2).2).2).1) (
                          cond ((z4 == (4 : Int))) (
                            H9 x0 z8 (IntKind.i64.wrap (x6 + (1 : Int))) b346 (IntKind.i64.wrap (b346_1 + (1 : Int))) (b347 ++ (([[(DV.v (Value.int IntKind.i64 (((c12).1).1).1)), (DV.v (Value.int IntKind.i64 ((((c12).1).1).2).1)), (DV.v (Value.int IntKind.i64 (((((c12).1).1).2).2).1)), (DV.v (Value.int IntKind.i64 ((((((c12).1).1).2).2).2).1)), (DV.v (Value.int IntKind.i64 (((((((c12).1).1).2).2).2).2).1)), (DV.v (Value.int IntKind.i64 ((((((((c12).1).1).2).2).2).2).2).1)), (DV.v (Value.bool (((((((((c12).1).1).2).2).2).2).2).2).1))]]).take (1))) ((b314).set (0) (putD r10 0 [(DV.v (Value.int IntKind.i64 (c12).2))])) c) (
                            cond ((((((((((c12).1).1).2).2).2).2).2).2).1) (
                              H9 x0 (0 : Int) (IntKind.i64.wrap (x6 + (1 : Int))) b346 (IntKind.i64.wrap (b346_1 + (1 : Int))) (b347 ++ (([[(DV.v (Value.int IntKind.i64 (((c12).1).1).1)), (DV.v (Value.int IntKind.i64 ((((c12).1).1).2).1)), (DV.v (Value.int IntKind.i64 (((((c12).1).1).2).2).1)), (DV.v (Value.int IntKind.i64 ((((((c12).1).1).2).2).2).1)), (DV.v (Value.int IntKind.i64 (((((((c12).1).1).2).2).2).2).1)), (DV.v (Value.int IntKind.i64 ((((((((c12).1).1).2).2).2).2).2).1)), (DV.v (Value.bool (((((((((c12).1).1).2).2).2).2).2).2).1))]]).take (1))) ((b314).set (0) (putD r10 0 [(DV.v (Value.int IntKind.i64 (c12).2))])) c) (
                              H9 x0 x5 (IntKind.i64.wrap (x6 + (1 : Int))) b346 (IntKind.i64.wrap (b346_1 + (1 : Int))) (b347 ++ (([[(DV.v (Value.int IntKind.i64 (((c12).1).1).1)), (DV.v (Value.int IntKind.i64 ((((c12).1).1).2).1)), (DV.v (Value.int IntKind.i64 (((((c12).1).1).2).2).1)), (DV.v (Value.int IntKind.i64 ((((((c12).1).1).2).2).2).1)), (DV.v (Value.int IntKind.i64 (((((((c12).1).1).2).2).2).2).1)), (DV.v (Value.int IntKind.i64 ((((((((c12).1).1).2).2).2).2).2).1)), (DV.v (Value.bool (((((((((c12).1).1).2).2).2).2).2).2).1))]]).take (1))) ((b314).set (0) (putD r10 0 [(DV.v (Value.int IntKind.i64 (c12).2))])) c))) (
                          cond ((((((((((c12).1).1).2).2).2).2).2).2).1) (
                            H9 x0 (0 : Int) (IntKind.i64.wrap (x6 + (1 : Int))) b346 (IntKind.i64.wrap (b346_1 + (1 : Int))) (b347 ++ (([[(DV.v (Value.int IntKind.i64 (((c12).1).1).1)), (DV.v (Value.int IntKind.i64 ((((c12).1).1).2).1)), (DV.v (Value.int IntKind.i64 (((((c12).1).1).2).2).1)), (DV.v (Value.int IntKind.i64 ((((((c12).1).1).2).2).2).1)), (DV.v (Value.int IntKind.i64 (((((((c12).1).1).2).2).2).2).1)), (DV.v (Value.int IntKind.i64 ((((((((c12).1).1).2).2).2).2).2).1)), (DV.v (Value.bool (((((((((c12).1).1).2).2).2).2).2).2).1))]]).take (1))) ((b314).set (0) (putD r10 0 [(DV.v (Value.int IntKind.i64 (c12).2))])) c) (
                            H9 x0 x5 (IntKind.i64.wrap (x6 + (1 : Int))) b346 (IntKind.i64.wrap (b346_1 + (1 : Int))) (b347 ++ (([[(DV.v (Value.int IntKind.i64 (((c12).1).1).1)), (DV.v (Value.int IntKind.i64 ((((c12).1).1).2).1)), (DV.v (Value.int IntKind.i64 (((((c12).1).1).2).2).1)), (DV.v (Value.int IntKind.i64 ((((((c12).1).1).2).2).2).1)), (DV.v (Value.int IntKind.i64 (((((((c12).1).1).2).2).2).2).1)), (DV.v (Value.int IntKind.i64 ((((((((c12).1).1).2).2).2).2).2).1)), (DV.v (Value.bool (((((((((c12).1).1).2).2).2).2).2).2).1))]]).take (1))) ((b314).set (0) (putD r10 0 [(DV.v (Value.int IntKind.i64 (c12).2))])) c))))))))) (
                cond ((((((((((c12).1).1).2).2).2).2).2).1 != x5)) (
                  c = (false, ())) (
                  cond ((z4 == (4 : Int))) (
                    cond ((x5 == (0 : Int))) (
                      cond ((!((((((((((c12).1).1).2).2).2).2).2).2).1 == true))) (
                        c = (false, ())) (
                        cond ((((((((((c12).1).1).2).2).2).2).2).2).1) (
                          cond ((z4 == (4 : Int))) (
                            H9 x0 z8 (IntKind.i64.wrap (x6 + (1 : Int))) b346 (IntKind.i64.wrap (b346_1 + (1 : Int))) b347 ((b314).set (0) (putD r10 0 [(DV.v (Value.int IntKind.i64 (c12).2))])) c) (
                            cond ((((((((((c12).1).1).2).2).2).2).2).2).1) (
                              H9 x0 (0 : Int) (IntKind.i64.wrap (x6 + (1 : Int))) b346 (IntKind.i64.wrap (b346_1 + (1 : Int))) b347 ((b314).set (0) (putD r10 0 [(DV.v (Value.int IntKind.i64 (c12).2))])) c) (
                              H9 x0 x5 (IntKind.i64.wrap (x6 + (1 : Int))) b346 (IntKind.i64.wrap (b346_1 + (1 : Int))) b347 ((b314).set (0) (putD r10 0 [(DV.v (Value.int IntKind.i64 (c12).2))])) c))) (
                          cond ((((((((((c12).1).1).2).2).2).2).2).2).1) (
                            H9 x0 (0 : Int) (IntKind.i64.wrap (x6 + (1 : Int))) b346 (IntKind.i64.wrap (b346_1 + (1 : Int))) b347 ((b314).set (0) (putD r10 0 [(DV.v (Value.int IntKind.i64 (c12).2))])) c) (
                            H9 x0 x5 (IntKind.i64.wrap (x6 + (1 : Int))) b346 (IntKind.i64.wrap (b346_1 + (1 : Int))) b347 ((b314).set (0) (putD r10 0 [(DV.v (Value.int IntKind.i64 (c12).2))])) c)))) (
                      cond ((z4 == (5 : Int))) (
                        cond ((!((((((((((c12).1).1).2).2).2).2).2).2).1 == (x5 == z8)))) (
                          c = (false, ())) (
                          cond ((((((((((c12).1).1).2).2).2).2).2).2).1) (
                            cond ((z4 == (4 : Int))) (
                              H9 x0 z8 (IntKind.i64.wrap (x6 + (1 : Int))) b346 (IntKind.i64.wrap (b346_1 + (1 : Int))) b347 ((b314).set (0) (putD r10 0 [(DV.v (Value.int IntKind.i64 (c12).2))])) c) (
                              cond ((((((((((c12).1).1).2).2).2).2).2).2).1) (
                                H9 x0 (0 : Int) (IntKind.i64.wrap (x6 + (1 : Int))) b346 (IntKind.i64.wrap (b346_1 + (1 : Int))) b347 ((b314).set (0) (putD r10 0 [(DV.v (Value.int IntKind.i64 (c12).2))])) c) (
                                H9 x0 x5 (IntKind.i64.wrap (x6 + (1 : Int))) b346 (IntKind.i64.wrap (b346_1 + (1 : Int))) b347 ((b314).set (0) (putD r10 0 [(DV.v (Value.int IntKind.i64 (c12).2))])) c))) (
                            cond ((((((((((c12).1).1).2).2).2).2).2).2).1) (
                              H9 x0 (0 : Int) (IntKind.i64.wrap (x6 + (1 : Int))) b346 (IntKind.i64.wrap (b346_1 + (1 : Int))) b347 ((b314).set (0) (putD r10 0 [(DV.v (Value.int IntKind.i64 (c12).2))])) c) (
                              H9 x0 x5 (IntKind.i64.wrap (x6 + (1 : Int))) b346 (IntKind.i64.wrap (b346_1 + (1 : Int))) b347 ((b314).set (0) (putD r10 0 [(DV.v (Value.int IntKind.i64 (c12).2))])) c)))) (
                        cond ((!((((((((((c12).1).1).2).2).2).2).2).2).1 == false))) (
                          c = (false, ())) (
                          cond ((((((((((c12).1).1).2).2).2).2).2).2).1) (
                            cond ((z4 == (4 : Int))) (
                              H9 x0 z8 (IntKind.i64.wrap (x6 + (1 : Int))) b346 (IntKind.i64.wrap (b346_1 + (1 : Int))) b347 ((b314).set (0) (putD r10 0 [(DV.v (Value.int IntKind.i64 (c12).2))])) c) (
                              cond ((((((((((c12).1).1).2).2).2).2).2).2).1) (
                                H9 x0 (0 : Int) (IntKind.i64.wrap (x6 + (1 : Int))) b346 (IntKind.i64.wrap (b346_1 + (1 : Int))) b347 ((b314).set (0) (putD r10 0 [(DV.v (Value.int IntKind.i64 (c12).2))])) c) (
                                H9 x0 x5 (IntKind.i64.wrap (x6 + (1 : Int))) b346 (IntKind.i64.wrap (b346_1 + (1 : Int))) b347 ((b314).set (0) (putD r10 0 [(DV.v (Value.int IntKind.i64 (c12).2))])) c))) (
                            cond ((((((((((c12).1).1).2).2).2).2).2).2).1) (
                              H9 x0 (0 : Int) (IntKind.i64.wrap (x6 + (1 : Int))) b346 (IntKind.i64.wrap (b346_1 + (1 : Int))) b347 ((b314).set (0) (putD r10 0 [(DV.v (Value.int IntKind.i64 (c12).2))])) c) (
                              H9 x0 x5 (IntKind.i64.wrap (x6 + (1 : Int))) b346 (IntKind.i64.wrap (b346_1 + (1 : Int))) b347 ((b314).set (0) (putD r10 0 [(DV.v (Value.int IntKind.i64 (c12).2))])) c)))))) (
                    cond ((z4 == (5 : Int))) (
                      cond ((!((((((((((c12).1).1).2).2).2).2).2).2).1 == (x5 == z8)))) (
                        c = (false, ())) (
                        cond ((((((((((c12).1).1).2).2).2).2).2).2).1) (
                          cond ((z4 == (4 : Int))) (
                            H9 x0 z8 (IntKind.i64.wrap (x6 + (1 : Int))) b346 (IntKind.i64.wrap (b346_1 + (1 : Int))) b347 ((b314).set (0) (putD r10 0 [(DV.v (Value.int IntKind.i64 (c12).2))])) c) (
                            cond ((((((((((c12).1).1).2).2).2).2).2).2).1) (
                              H9 x0 (0 : Int) (IntKind.i64.wrap (x6 + (1 : Int))) b346 (IntKind.i64.wrap (b346_1 + (1 : Int))) b347 ((b314).set (0) (putD r10 0 [(DV.v (Value.int IntKind.i64 (c12).2))])) c) (
                              H9 x0 x5 (IntKind.i64.wrap (x6 + (1 : Int))) b346 (IntKind.i64.wrap (b346_1 + (1 : Int))) b347 ((b314).set (0) (putD r10 0 [(DV.v (Value.int IntKind.i64 (c12).2))])) c))) (
                          cond ((((((((((c12).1).1).2).2).2).2).2).2).1) (
                            H9 x0 (0 : Int) (IntKind.i64.wrap (x6 + (1 : Int))) b346 (IntKind.i64.wrap (b346_1 + (1 : Int))) b347 ((b314).set (0) (putD r10 0 [(DV.v (Value.int IntKind.i64 (c12).2))])) c) (
                            H9 x0 x5 (IntKind.i64.wrap (x6 + (1 : Int))) b346 (IntKind.i64.wrap (b346_1 + (1 : Int))) b347 ((b314).set (0) (putD r10 0 [(DV.v (Value.int IntKind.i64 (c12).2))])) c)))) (
                      cond ((!((((((((((c12).1).1).2).2).2).2).2).2).1 == false))) (
                        c = (false, ())) (
                        cond ((((((((((c12).1).1).2).2).2).2).2).2).1) (
                          cond ((z4 == (4 : Int))) (
                            H9 x0 z8 (IntKind.i64.wrap (x6 + (1 : Int))) b346 (IntKind.i64.wrap (b346_1 + (1 : Int))) b347 ((b314).set (0) (putD r10 0 [(DV.v (Value.int IntKind.i64 (c12).2))])) c) (
                            cond ((((((((((c12).1).1).2).2).2).2).2).2).1) (
                              H9 x0 (0 : Int) (IntKind.i64.wrap (x6 + (1 : Int))) b346 (IntKind.i64.wrap (b346_1 + (1 : Int))) b347 ((b314).set (0) (putD r10 0 [(DV.v (Value.int IntKind.i64 (c12).2))])) c) (
                              H9 x0 x5 (IntKind.i64.wrap (x6 + (1 : Int))) b346 (IntKind.i64.wrap (b346_1 + (1 : Int))) b347 ((b314).set (0) (putD r10 0 [(DV.v (Value.int IntKind.i64 (c12).2))])) c))) (
                          cond ((((((((((c12).1).1).2).2).2).2).2).2).1) (
                            H9 x0 (0 : Int) (IntKind.i64.wrap (x6 + (1 : Int))) b346 (IntKind.i64.wrap (b346_1 + (1 : Int))) b347 ((b314).set (0) (putD r10 0 [(DV.v (Value.int IntKind.i64 (c12).2))])) c) (
                            H9 x0 x5 (IntKind.i64.wrap (x6 + (1 : Int))) b346 (IntKind.i64.wrap (b346_1 + (1 : Int))) b347 ((b314).set (0) (putD r10 0 [(DV.v (Value.int IntKind.i64 (c12).2))])) c)))))))))))) (
        cond (decide ((z8 < (1 : Int)))) (
          H9 x0 x5 (IntKind.i64.wrap (x6 + (1 : Int))) b346 b346_1 b347 b314 c) (
          optAll (cells_Check.R z4 (0 : Int) z6 z7 z8 ((b346 : Nat) : Int)) fun (c13 : (Int × Unit)) =>
          cond (((c13).1 != (0 : Int))) (
            cond (((0 : Int) != x5)) (
              c = (false, ())) (
              cond ((z4 == (4 : Int))) (
                cond ((x5 == (0 : Int))) (
                  c = (false, ())) (
                  cond ((z4 == (5 : Int))) (
                    cond ((!(false == (x5 == z8)))) (
                      c = (false, ())) (
                      H9 x0 x5 (IntKind.i64.wrap (x6 + (1 : Int))) b346 b346_1 b347 b314 c)) (
                    H9 x0 x5 (IntKind.i64.wrap (x6 + (1 : Int))) b346 b346_1 b347 b314 c))) (
                cond ((z4 == (5 : Int))) (
                  cond ((!(false == (x5 == z8)))) (
                    c = (false, ())) (
                    H9 x0 x5 (IntKind.i64.wrap (x6 + (1 : Int))) b346 b346_1 b347 b314 c)) (
                  H9 x0 x5 (IntKind.i64.wrap (x6 + (1 : Int))) b346 b346_1 b347 b314 c)))) (
            needs (((0 : Int) ≤ (0 : Int)) ∧ ((0 : Int) < ((b346 : Nat) : Int))) (
            optAll ((b314)[0]?) fun (r14 : List DV) =>
            optAll ((dInt IntKind.i64 r14 0)) fun (z15 : Int) =>
            optAll (cells_step.R z15 z4 (0 : Int) z6 z7 z8) fun (c16 : (((Int × (Int × (Int × (Int × (Int × (Int × (Bool × Unit))))))) × Unit) × Int)) =>
            cond (decide (((((b347).length : Nat) : Int) < (2000 : Int)))) (
              needs ((b347).length = (b347).length) (
              needs (((((b347 ++ (([[(DV.v (Value.int IntKind.i64 (((c16).1).1).1)), (DV.v (Value.int IntKind.i64 ((((c16).1).1).2).1)), (DV.v (Value.int IntKind.i64 (((((c16).1).1).2).2).1)), (DV.v (Value.int IntKind.i64 ((((((c16).1).1).2).2).2).1)), (DV.v (Value.int IntKind.i64 (((((((c16).1).1).2).2).2).2).1)), (DV.v (Value.int IntKind.i64 ((((((((c16).1).1).2).2).2).2).2).1)), (DV.v (Value.bool (((((((((c16).1).1).2).2).2).2).2).2).1))]]).take (1)))).length * 56) ≤ 140737488355328) ∧ ((((b347 ++ (([[(DV.v (Value.int IntKind.i64 (((c16).1).1).1)), (DV.v (Value.int IntKind.i64 ((((c16).1).1).2).1)), (DV.v (Value.int IntKind.i64 (((((c16).1).1).2).2).1)), (DV.v (Value.int IntKind.i64 ((((((c16).1).1).2).2).2).1)), (DV.v (Value.int IntKind.i64 (((((((c16).1).1).2).2).2).2).1)), (DV.v (Value.int IntKind.i64 ((((((((c16).1).1).2).2).2).2).2).1)), (DV.v (Value.bool (((((((((c16).1).1).2).2).2).2).2).2).1))]]).take (1)))).length * 7) ≤ 140737488355328)) (
              cond ((((((((((c16).1).1).2).2).2).2).2).1 != x5)) (
                c = (false, ())) (
                cond ((z4 == (4 : Int))) (
                  cond ((x5 == (0 : Int))) (
                    cond ((!((((((((((c16).1).1).2).2).2).2).2).2).1 == true))) (
                      c = (false, ())) (
                      cond ((((((((((c16).1).1).2).2).2).2).2).2).1) (
                        cond ((z4 == (4 : Int))) (
                          H9 x0 z8 (IntKind.i64.wrap (x6 + (1 : Int))) b346 (IntKind.i64.wrap (b346_1 + (1 : Int))) (b347 ++ (([[(DV.v (Value.int IntKind.i64 (((c16).1).1).1)), (DV.v (Value.int IntKind.i64 ((((c16).1).1).2).1)), (DV.v (Value.int IntKind.i64 (((((c16).1).1).2).2).1)), (DV.v (Value.int IntKind.i64 ((((((c16).1).1).2).2).2).1)), (DV.v (Value.int IntKind.i64 (((((((c16).1).1).2).2).2).2).1)), (DV.v (Value.int IntKind.i64 ((((((((c16).1).1).2).2).2).2).2).1)), (DV.v (Value.bool (((((((((c16).1).1).2).2).2).2).2).2).1))]]).take (1))) ((b314).set (0) (putD r14 0 [(DV.v (Value.int IntKind.i64 (c16).2))])) c) (
                          cond ((((((((((c16).1).1).2).2).2).2).2).2).1) (
                            H9 x0 (0 : Int) (IntKind.i64.wrap (x6 + (1 : Int))) b346 (IntKind.i64.wrap (b346_1 + (1 : Int))) (b347 ++ (([[(DV.v (Value.int IntKind.i64 (((c16).1).1).1)), (DV.v (Value.int IntKind.i64 ((((c16).1).1).2).1)), (DV.v (Value.int IntKind.i64 (((((c16).1).1).2).2).1)), (DV.v (Value.int IntKind.i64 ((((((c16).1).1).2).2).2).1)), (DV.v (Value.int IntKind.i64 (((((((c16).1).1).2).2).2).2).1)), (DV.v (Value.int IntKind.i64 ((((((((c16).1).1).2).2).2).2).2).1)), (DV.v (Value.bool (((((((((c16).1).1).2).2).2).2).2).2).1))]]).take (1))) ((b314).set (0) (putD r14 0 [(DV.v (Value.int IntKind.i64 (c16).2))])) c) (
                            H9 x0 x5 (IntKind.i64.wrap (x6 + (1 : Int))) b346 (IntKind.i64.wrap (b346_1 + (1 : Int))) (b347 ++ (([[(DV.v (Value.int IntKind.i64 (((c16).1).1).1)), (DV.v (Value.int IntKind.i64 ((((c16).1).1).2).1)), (DV.v (Value.int IntKind.i64 (((((c16).1).1).2).2).1)), (DV.v (Value.int IntKind.i64 ((((((c16).1).1).2).2).2).1)), (DV.v (Value.int IntKind.i64 (((((((c16).1).1).2).2).2).2).1)), (DV.v (Value.int IntKind.i64 ((((((((c16).1).1).2).2).2).2).2).1)), (DV.v (Value.bool (((((((((c16).1).1).2).2).2).2).2).2).1))]]).take (1))) ((b314).set (0) (putD r14 0 [(DV.v (Value.int IntKind.i64 (c16).2))])) c))) (
                        cond ((((((((((c16).1).1).2).2).2).2).2).2).1) (
                          H9 x0 (0 : Int) (IntKind.i64.wrap (x6 + (1 : Int))) b346 (IntKind.i64.wrap (b346_1 + (1 : Int))) (b347 ++ (([[(DV.v (Value.int IntKind.i64 (((c16).1).1).1)), (DV.v (Value.int IntKind.i64 ((((c16).1).1).2).1)), (DV.v (Value.int IntKind.i64 (((((c16).1).1).2).2).1)), (DV.v (Value.int IntKind.i64 ((((((c16).1).1).2).2).2).1)), (DV.v (Value.int IntKind.i64 (((((((c16).1).1).2).2).2).2).1)), (DV.v (Value.int IntKind.i64 ((((((((c16).1).1).2).2).2).2).2).1)), (DV.v (Value.bool (((((((((c16).1).1).2).2).2).2).2).2).1))]]).take (1))) ((b314).set (0) (putD r14 0 [(DV.v (Value.int IntKind.i64 (c16).2))])) c) (
                          H9 x0 x5 (IntKind.i64.wrap (x6 + (1 : Int))) b346 (IntKind.i64.wrap (b346_1 + (1 : Int))) (b347 ++ (([[(DV.v (Value.int IntKind.i64 (((c16).1).1).1)), (DV.v (Value.int IntKind.i64 ((((c16).1).1).2).1)), (DV.v (Value.int IntKind.i64 (((((c16).1).1).2).2).1)), (DV.v (Value.int IntKind.i64 ((((((c16).1).1).2).2).2).1)), (DV.v (Value.int IntKind.i64 (((((((c16).1).1).2).2).2).2).1)), (DV.v (Value.int IntKind.i64 ((((((((c16).1).1).2).2).2).2).2).1)), (DV.v (Value.bool (((((((((c16).1).1).2).2).2).2).2).2).1))]]).take (1))) ((b314).set (0) (putD r14 0 [(DV.v (Value.int IntKind.i64 (c16).2))])) c)))) (
                    cond ((z4 == (5 : Int))) (
                      cond ((!((((((((((c16).1).1).2).2).2).2).2).2).1 == (x5 == z8)))) (
                        c = (false, ())) (
                        cond ((((((((((c16).1).1).2).2).2).2).2).2).1) (
                          cond ((z4 == (4 : Int))) (
                            H9 x0 z8 (IntKind.i64.wrap (x6 + (1 : Int))) b346 (IntKind.i64.wrap (b346_1 + (1 : Int))) (b347 ++ (([[(DV.v (Value.int IntKind.i64 (((c16).1).1).1)), (DV.v (Value.int IntKind.i64 ((((c16).1).1).2).1)), (DV.v (Value.int IntKind.i64 (((((c16).1).1).2).2).1)), (DV.v (Value.int IntKind.i64 ((((((c16).1).1).2).2).2).1)), (DV.v (Value.int IntKind.i64 (((((((c16).1).1).2).2).2).2).1)), (DV.v (Value.int IntKind.i64 ((((((((c16).1).1).2).2).2).2).2).1)), (DV.v (Value.bool (((((((((c16).1).1).2).2).2).2).2).2).1))]]).take (1))) ((b314).set (0) (putD r14 0 [(DV.v (Value.int IntKind.i64 (c16).2))])) c) (
                            cond ((((((((((c16).1).1).2).2).2).2).2).2).1) (
                              H9 x0 (0 : Int) (IntKind.i64.wrap (x6 + (1 : Int))) b346 (IntKind.i64.wrap (b346_1 + (1 : Int))) (b347 ++ (([[(DV.v (Value.int IntKind.i64 (((c16).1).1).1)), (DV.v (Value.int IntKind.i64 ((((c16).1).1).2).1)), (DV.v (Value.int IntKind.i64 (((((c16).1).1).2).2).1)), (DV.v (Value.int IntKind.i64 ((((((c16).1).1).2).2).2).1)), (DV.v (Value.int IntKind.i64 (((((((c16).1).1).2).2).2).2).1)), (DV.v (Value.int IntKind.i64 ((((((((c16).1).1).2).2).2).2).2).1)), (DV.v (Value.bool (((((((((c16).1).1).2).2).2).2).2).2).1))]]).take (1))) ((b314).set (0) (putD r14 0 [(DV.v (Value.int IntKind.i64 (c16).2))])) c) (
                              H9 x0 x5 (IntKind.i64.wrap (x6 + (1 : Int))) b346 (IntKind.i64.wrap (b346_1 + (1 : Int))) (b347 ++ (([[(DV.v (Value.int IntKind.i64 (((c16).1).1).1)), (DV.v (Value.int IntKind.i64 ((((c16).1).1).2).1)), (DV.v (Value.int IntKind.i64 (((((c16).1).1).2).2).1)), (DV.v (Value.int IntKind.i64 ((((((c16).1).1).2).2).2).1)), (DV.v (Value.int IntKind.i64 (((((((c16).1).1).2).2).2).2).1)), (DV.v (Value.int IntKind.i64 ((((((((c16).1).1).2).2).2).2).2).1)), (DV.v (Value.bool (((((((((c16).1).1).2).2).2).2).2).2).1))]]).take (1))) ((b314).set (0) (putD r14 0 [(DV.v (Value.int IntKind.i64 (c16).2))])) c))) (
                          cond ((((((((((c16).1).1).2).2).2).2).2).2).1) (
                            H9 x0 (0 : Int) (IntKind.i64.wrap (x6 + (1 : Int))) b346 (IntKind.i64.wrap (b346_1 + (1 : Int))) (b347 ++ (([[(DV.v (Value.int IntKind.i64 (((c16).1).1).1)), (DV.v (Value.int IntKind.i64 ((((c16).1).1).2).1)), (DV.v (Value.int IntKind.i64 (((((c16).1).1).2).2).1)), (DV.v (Value.int IntKind.i64 ((((((c16).1).1).2).2).2).1)), (DV.v (Value.int IntKind.i64 (((((((c16).1).1).2).2).2).2).1)), (DV.v (Value.int IntKind.i64 ((((((((c16).1).1).2).2).2).2).2).1)), (DV.v (Value.bool (((((((((c16).1).1).2).2).2).2).2).2).1))]]).take (1))) ((b314).set (0) (putD r14 0 [(DV.v (Value.int IntKind.i64 (c16).2))])) c) (
                            H9 x0 x5 (IntKind.i64.wrap (x6 + (1 : Int))) b346 (IntKind.i64.wrap (b346_1 + (1 : Int))) (b347 ++ (([[(DV.v (Value.int IntKind.i64 (((c16).1).1).1)), (DV.v (Value.int IntKind.i64 ((((c16).1).1).2).1)), (DV.v (Value.int IntKind.i64 (((((c16).1).1).2).2).1)), (DV.v (Value.int IntKind.i64 ((((((c16).1).1).2).2).2).1)), (DV.v (Value.int IntKind.i64 (((((((c16).1).1).2).2).2).2).1)), (DV.v (Value.int IntKind.i64 ((((((((c16).1).1).2).2).2).2).2).1)), (DV.v (Value.bool (((((((((c16).1).1).2).2).2).2).2).2).1))]]).take (1))) ((b314).set (0) (putD r14 0 [(DV.v (Value.int IntKind.i64 (c16).2))])) c)))) (
                      cond ((!((((((((((c16).1).1).2).2).2).2).2).2).1 == false))) (
                        c = (false, ())) (
                        cond ((((((((((c16).1).1).2).2).2).2).2).2).1) (
                          cond ((z4 == (4 : Int))) (
                            H9 x0 z8 (IntKind.i64.wrap (x6 + (1 : Int))) b346 (IntKind.i64.wrap (b346_1 + (1 : Int))) (b347 ++ (([[(DV.v (Value.int IntKind.i64 (((c16).1).1).1)), (DV.v (Value.int IntKind.i64 ((((c16).1).1).2).1)), (DV.v (Value.int IntKind.i64 (((((c16).1).1).2).2).1)), (DV.v (Value.int IntKind.i64 ((((((c16).1).1).2).2).2).1)), (DV.v (Value.int IntKind.i64 (((((((c16).1).1).2).2).2).2).1)), (DV.v (Value.int IntKind.i64 ((((((((c16).1).1).2).2).2).2).2).1)), (DV.v (Value.bool (((((((((c16).1).1).2).2).2).2).2).2).1))]]).take (1))) ((b314).set (0) (putD r14 0 [(DV.v (Value.int IntKind.i64 (c16).2))])) c) (
                            cond ((((((((((c16).1).1).2).2).2).2).2).2).1) (
                              H9 x0 (0 : Int) (IntKind.i64.wrap (x6 + (1 : Int))) b346 (IntKind.i64.wrap (b346_1 + (1 : Int))) (b347 ++ (([[(DV.v (Value.int IntKind.i64 (((c16).1).1).1)), (DV.v (Value.int IntKind.i64 ((((c16).1).1).2).1)), (DV.v (Value.int IntKind.i64 (((((c16).1).1).2).2).1)), (DV.v (Value.int IntKind.i64 ((((((c16).1).1).2).2).2).1)), (DV.v (Value.int IntKind.i64 (((((((c16).1).1).2).2).2).2).1)), (DV.v (Value.int IntKind.i64 ((((((((c16).1).1).2).2).2).2).2).1)), (DV.v (Value.bool (((((((((c16).1).1).2).2).2).2).2).2).1))]]).take (1))) ((b314).set (0) (putD r14 0 [(DV.v (Value.int IntKind.i64 (c16).2))])) c) (
                              H9 x0 x5 (IntKind.i64.wrap (x6 + (1 : Int))) b346 (IntKind.i64.wrap (b346_1 + (1 : Int))) (b347 ++ (([[(DV.v (Value.int IntKind.i64 (((c16).1).1).1)), (DV.v (Value.int IntKind.i64 ((((c16).1).1).2).1)), (DV.v (Value.int IntKind.i64 (((((c16).1).1).2).2).1)), (DV.v (Value.int IntKind.i64 ((((((c16).1).1).2).2).2).1)), (DV.v (Value.int IntKind.i64 (((((((c16).1).1).2).2).2).2).1)), (DV.v (Value.int IntKind.i64 ((((((((c16).1).1).2).2).2).2).2).1)), (DV.v (Value.bool (((((((((c16).1).1).2).2).2).2).2).2).1))]]).take (1))) ((b314).set (0) (putD r14 0 [(DV.v (Value.int IntKind.i64 (c16).2))])) c))) (
                          cond ((((((((((c16).1).1).2).2).2).2).2).2).1) (
                            H9 x0 (0 : Int) (IntKind.i64.wrap (x6 + (1 : Int))) b346 (IntKind.i64.wrap (b346_1 + (1 : Int))) (b347 ++ (([[(DV.v (Value.int IntKind.i64 (((c16).1).1).1)), (DV.v (Value.int IntKind.i64 ((((c16).1).1).2).1)), (DV.v (Value.int IntKind.i64 (((((c16).1).1).2).2).1)), (DV.v (Value.int IntKind.i64 ((((((c16).1).1).2).2).2).1)), (DV.v (Value.int IntKind.i64 (((((((c16).1).1).2).2).2).2).1)), (DV.v (Value.int IntKind.i64 ((((((((c16).1).1).2).2).2).2).2).1)), (DV.v (Value.bool (((((((((c16).1).1).2).2).2).2).2).2).1))]]).take (1))) ((b314).set (0) (putD r14 0 [(DV.v (Value.int IntKind.i64 (c16).2))])) c) (
                            H9 x0 x5 (IntKind.i64.wrap (x6 + (1 : Int))) b346 (IntKind.i64.wrap (b346_1 + (1 : Int))) (b347 ++ (([[(DV.v (Value.int IntKind.i64 (((c16).1).1).1)), (DV.v (Value.int IntKind.i64 ((((c16).1).1).2).1)), (DV.v (Value.int IntKind.i64 (((((c16).1).1).2).2).1)), (DV.v (Value.int IntKind.i64 ((((((c16).1).1).2).2).2).1)), (DV.v (Value.int IntKind.i64 (((((((c16).1).1).2).2).2).2).1)), (DV.v (Value.int IntKind.i64 ((((((((c16).1).1).2).2).2).2).2).1)), (DV.v (Value.bool (((((((((c16).1).1).2).2).2).2).2).2).1))]]).take (1))) ((b314).set (0) (putD r14 0 [(DV.v (Value.int IntKind.i64 (c16).2))])) c)))))) (
                  cond ((z4 == (5 : Int))) (
                    cond ((!((((((((((c16).1).1).2).2).2).2).2).2).1 == (x5 == z8)))) (
                      c = (false, ())) (
                      cond ((((((((((c16).1).1).2).2).2).2).2).2).1) (
                        cond ((z4 == (4 : Int))) (
                          H9 x0 z8 (IntKind.i64.wrap (x6 + (1 : Int))) b346 (IntKind.i64.wrap (b346_1 + (1 : Int))) (b347 ++ (([[(DV.v (Value.int IntKind.i64 (((c16).1).1).1)), (DV.v (Value.int IntKind.i64 ((((c16).1).1).2).1)), (DV.v (Value.int IntKind.i64 (((((c16).1).1).2).2).1)), (DV.v (Value.int IntKind.i64 ((((((c16).1).1).2).2).2).1)), (DV.v (Value.int IntKind.i64 (((((((c16).1).1).2).2).2).2).1)), (DV.v (Value.int IntKind.i64 ((((((((c16).1).1).2).2).2).2).2).1)), (DV.v (Value.bool (((((((((c16).1).1).2).2).2).2).2).2).1))]]).take (1))) ((b314).set (0) (putD r14 0 [(DV.v (Value.int IntKind.i64 (c16).2))])) c) (
                          cond ((((((((((c16).1).1).2).2).2).2).2).2).1) (
                            H9 x0 (0 : Int) (IntKind.i64.wrap (x6 + (1 : Int))) b346 (IntKind.i64.wrap (b346_1 + (1 : Int))) (b347 ++ (([[(DV.v (Value.int IntKind.i64 (((c16).1).1).1)), (DV.v (Value.int IntKind.i64 ((((c16).1).1).2).1)), (DV.v (Value.int IntKind.i64 (((((c16).1).1).2).2).1)), (DV.v (Value.int IntKind.i64 ((((((c16).1).1).2).2).2).1)), (DV.v (Value.int IntKind.i64 (((((((c16).1).1).2).2).2).2).1)), (DV.v (Value.int IntKind.i64 ((((((((c16).1).1).2).2).2).2).2).1)), (DV.v (Value.bool (((((((((c16).1).1).2).2).2).2).2).2).1))]]).take (1))) ((b314).set (0) (putD r14 0 [(DV.v (Value.int IntKind.i64 (c16).2))])) c) (
                            H9 x0 x5 (IntKind.i64.wrap (x6 + (1 : Int))) b346 (IntKind.i64.wrap (b346_1 + (1 : Int))) (b347 ++ (([[(DV.v (Value.int IntKind.i64 (((c16).1).1).1)), (DV.v (Value.int IntKind.i64 ((((c16).1).1).2).1)), (DV.v (Value.int IntKind.i64 (((((c16).1).1).2).2).1)), (DV.v (Value.int IntKind.i64 ((((((c16).1).1).2).2).2).1)), (DV.v (Value.int IntKind.i64 (((((((c16).1).1).2).2).2).2).1)), (DV.v (Value.int IntKind.i64 ((((((((c16).1).1).2).2).2).2).2).1)), (DV.v (Value.bool (((((((((c16).1).1).2).2).2).2).2).2).1))]]).take (1))) ((b314).set (0) (putD r14 0 [(DV.v (Value.int IntKind.i64 (c16).2))])) c))) (
                        cond ((((((((((c16).1).1).2).2).2).2).2).2).1) (
                          H9 x0 (0 : Int) (IntKind.i64.wrap (x6 + (1 : Int))) b346 (IntKind.i64.wrap (b346_1 + (1 : Int))) (b347 ++ (([[(DV.v (Value.int IntKind.i64 (((c16).1).1).1)), (DV.v (Value.int IntKind.i64 ((((c16).1).1).2).1)), (DV.v (Value.int IntKind.i64 (((((c16).1).1).2).2).1)), (DV.v (Value.int IntKind.i64 ((((((c16).1).1).2).2).2).1)), (DV.v (Value.int IntKind.i64 (((((((c16).1).1).2).2).2).2).1)), (DV.v (Value.int IntKind.i64 ((((((((c16).1).1).2).2).2).2).2).1)), (DV.v (Value.bool (((((((((c16).1).1).2).2).2).2).2).2).1))]]).take (1))) ((b314).set (0) (putD r14 0 [(DV.v (Value.int IntKind.i64 (c16).2))])) c) (
                          H9 x0 x5 (IntKind.i64.wrap (x6 + (1 : Int))) b346 (IntKind.i64.wrap (b346_1 + (1 : Int))) (b347 ++ (([[(DV.v (Value.int IntKind.i64 (((c16).1).1).1)), (DV.v (Value.int IntKind.i64 ((((c16).1).1).2).1)), (DV.v (Value.int IntKind.i64 (((((c16).1).1).2).2).1)), (DV.v (Value.int IntKind.i64 ((((((c16).1).1).2).2).2).1)), (DV.v (Value.int IntKind.i64 (((((((c16).1).1).2).2).2).2).1)), (DV.v (Value.int IntKind.i64 ((((((((c16).1).1).2).2).2).2).2).1)), (DV.v (Value.bool (((((((((c16).1).1).2).2).2).2).2).2).1))]]).take (1))) ((b314).set (0) (putD r14 0 [(DV.v (Value.int IntKind.i64 (c16).2))])) c)))) (
                    cond ((!((((((((((c16).1).1).2).2).2).2).2).2).1 == false))) (
                      c = (false, ())) (
                      cond ((((((((((c16).1).1).2).2).2).2).2).2).1) (
                        cond ((z4 == (4 : Int))) (
                          H9 x0 z8 (IntKind.i64.wrap (x6 + (1 : Int))) b346 (IntKind.i64.wrap (b346_1 + (1 : Int))) (b347 ++ (([[(DV.v (Value.int IntKind.i64 (((c16).1).1).1)), (DV.v (Value.int IntKind.i64 ((((c16).1).1).2).1)), (DV.v (Value.int IntKind.i64 (((((c16).1).1).2).2).1)), (DV.v (Value.int IntKind.i64 ((((((c16).1).1).2).2).2).1)), (DV.v (Value.int IntKind.i64 (((((((c16).1).1).2).2).2).2).1)), (DV.v (Value.int IntKind.i64 ((((((((c16).1).1).2).2).2).2).2).1)), (DV.v (Value.bool (((((((((c16).1).1).2).2).2).2).2).2).1))]]).take (1))) ((b314).set (0) (putD r14 0 [(DV.v (Value.int IntKind.i64 (c16).2))])) c) (
                          cond ((((((((((c16).1).1).2).2).2).2).2).2).1) (
                            H9 x0 (0 : Int) (IntKind.i64.wrap (x6 + (1 : Int))) b346 (IntKind.i64.wrap (b346_1 + (1 : Int))) (b347 ++ (([[(DV.v (Value.int IntKind.i64 (((c16).1).1).1)), (DV.v (Value.int IntKind.i64 ((((c16).1).1).2).1)), (DV.v (Value.int IntKind.i64 (((((c16).1).1).2).2).1)), (DV.v (Value.int IntKind.i64 ((((((c16).1).1).2).2).2).1)), (DV.v (Value.int IntKind.i64 (((((((c16).1).1).2).2).2).2).1)), (DV.v (Value.int IntKind.i64 ((((((((c16).1).1).2).2).2).2).2).1)), (DV.v (Value.bool (((((((((c16).1).1).2).2).2).2).2).2).1))]]).take (1))) ((b314).set (0) (putD r14 0 [(DV.v (Value.int IntKind.i64 (c16).2))])) c) (
                            H9 x0 x5 (IntKind.i64.wrap (x6 + (1 : Int))) b346 (IntKind.i64.wrap (b346_1 + (1 : Int))) (b347 ++ (([[(DV.v (Value.int IntKind.i64 (((c16).1).1).1)), (DV.v (Value.int IntKind.i64 ((((c16).1).1).2).1)), (DV.v (Value.int IntKind.i64 (((((c16).1).1).2).2).1)), (DV.v (Value.int IntKind.i64 ((((((c16).1).1).2).2).2).1)), (DV.v (Value.int IntKind.i64 (((((((c16).1).1).2).2).2).2).1)), (DV.v (Value.int IntKind.i64 ((((((((c16).1).1).2).2).2).2).2).1)), (DV.v (Value.bool (((((((((c16).1).1).2).2).2).2).2).2).1))]]).take (1))) ((b314).set (0) (putD r14 0 [(DV.v (Value.int IntKind.i64 (c16).2))])) c))) (
                        cond ((((((((((c16).1).1).2).2).2).2).2).2).1) (
                          H9 x0 (0 : Int) (IntKind.i64.wrap (x6 + (1 : Int))) b346 (IntKind.i64.wrap (b346_1 + (1 : Int))) (b347 ++ (([[(DV.v (Value.int IntKind.i64 (((c16).1).1).1)), (DV.v (Value.int IntKind.i64 ((((c16).1).1).2).1)), (DV.v (Value.int IntKind.i64 (((((c16).1).1).2).2).1)), (DV.v (Value.int IntKind.i64 ((((((c16).1).1).2).2).2).1)), (DV.v (Value.int IntKind.i64 (((((((c16).1).1).2).2).2).2).1)), (DV.v (Value.int IntKind.i64 ((((((((c16).1).1).2).2).2).2).2).1)), (DV.v (Value.bool (((((((((c16).1).1).2).2).2).2).2).2).1))]]).take (1))) ((b314).set (0) (putD r14 0 [(DV.v (Value.int IntKind.i64 (c16).2))])) c) (
                          H9 x0 x5 (IntKind.i64.wrap (x6 + (1 : Int))) b346 (IntKind.i64.wrap (b346_1 + (1 : Int))) (b347 ++ (([[(DV.v (Value.int IntKind.i64 (((c16).1).1).1)), (DV.v (Value.int IntKind.i64 ((((c16).1).1).2).1)), (DV.v (Value.int IntKind.i64 (((((c16).1).1).2).2).1)), (DV.v (Value.int IntKind.i64 ((((((c16).1).1).2).2).2).1)), (DV.v (Value.int IntKind.i64 (((((((c16).1).1).2).2).2).2).1)), (DV.v (Value.int IntKind.i64 ((((((((c16).1).1).2).2).2).2).2).1)), (DV.v (Value.bool (((((((((c16).1).1).2).2).2).2).2).2).1))]]).take (1))) ((b314).set (0) (putD r14 0 [(DV.v (Value.int IntKind.i64 (c16).2))])) c))))))))) (
              cond ((((((((((c16).1).1).2).2).2).2).2).1 != x5)) (
                c = (false, ())) (
                cond ((z4 == (4 : Int))) (
                  cond ((x5 == (0 : Int))) (
                    cond ((!((((((((((c16).1).1).2).2).2).2).2).2).1 == true))) (
                      c = (false, ())) (
                      cond ((((((((((c16).1).1).2).2).2).2).2).2).1) (
                        cond ((z4 == (4 : Int))) (
                          H9 x0 z8 (IntKind.i64.wrap (x6 + (1 : Int))) b346 (IntKind.i64.wrap (b346_1 + (1 : Int))) b347 ((b314).set (0) (putD r14 0 [(DV.v (Value.int IntKind.i64 (c16).2))])) c) (
                          cond ((((((((((c16).1).1).2).2).2).2).2).2).1) (
                            H9 x0 (0 : Int) (IntKind.i64.wrap (x6 + (1 : Int))) b346 (IntKind.i64.wrap (b346_1 + (1 : Int))) b347 ((b314).set (0) (putD r14 0 [(DV.v (Value.int IntKind.i64 (c16).2))])) c) (
                            H9 x0 x5 (IntKind.i64.wrap (x6 + (1 : Int))) b346 (IntKind.i64.wrap (b346_1 + (1 : Int))) b347 ((b314).set (0) (putD r14 0 [(DV.v (Value.int IntKind.i64 (c16).2))])) c))) (
                        cond ((((((((((c16).1).1).2).2).2).2).2).2).1) (
                          H9 x0 (0 : Int) (IntKind.i64.wrap (x6 + (1 : Int))) b346 (IntKind.i64.wrap (b346_1 + (1 : Int))) b347 ((b314).set (0) (putD r14 0 [(DV.v (Value.int IntKind.i64 (c16).2))])) c) (
                          H9 x0 x5 (IntKind.i64.wrap (x6 + (1 : Int))) b346 (IntKind.i64.wrap (b346_1 + (1 : Int))) b347 ((b314).set (0) (putD r14 0 [(DV.v (Value.int IntKind.i64 (c16).2))])) c)))) (
                    cond ((z4 == (5 : Int))) (
                      cond ((!((((((((((c16).1).1).2).2).2).2).2).2).1 == (x5 == z8)))) (
                        c = (false, ())) (
                        cond ((((((((((c16).1).1).2).2).2).2).2).2).1) (
                          cond ((z4 == (4 : Int))) (
                            H9 x0 z8 (IntKind.i64.wrap (x6 + (1 : Int))) b346 (IntKind.i64.wrap (b346_1 + (1 : Int))) b347 ((b314).set (0) (putD r14 0 [(DV.v (Value.int IntKind.i64 (c16).2))])) c) (
                            cond ((((((((((c16).1).1).2).2).2).2).2).2).1) (
                              H9 x0 (0 : Int) (IntKind.i64.wrap (x6 + (1 : Int))) b346 (IntKind.i64.wrap (b346_1 + (1 : Int))) b347 ((b314).set (0) (putD r14 0 [(DV.v (Value.int IntKind.i64 (c16).2))])) c) (
                              H9 x0 x5 (IntKind.i64.wrap (x6 + (1 : Int))) b346 (IntKind.i64.wrap (b346_1 + (1 : Int))) b347 ((b314).set (0) (putD r14 0 [(DV.v (Value.int IntKind.i64 (c16).2))])) c))) (
                          cond ((((((((((c16).1).1).2).2).2).2).2).2).1) (
                            H9 x0 (0 : Int) (IntKind.i64.wrap (x6 + (1 : Int))) b346 (IntKind.i64.wrap (b346_1 + (1 : Int))) b347 ((b314).set (0) (putD r14 0 [(DV.v (Value.int IntKind.i64 (c16).2))])) c) (
                            H9 x0 x5 (IntKind.i64.wrap (x6 + (1 : Int))) b346 (IntKind.i64.wrap (b346_1 + (1 : Int))) b347 ((b314).set (0) (putD r14 0 [(DV.v (Value.int IntKind.i64 (c16).2))])) c)))) (
                      cond ((!((((((((((c16).1).1).2).2).2).2).2).2).1 == false))) (
                        c = (false, ())) (
                        cond ((((((((((c16).1).1).2).2).2).2).2).2).1) (
                          cond ((z4 == (4 : Int))) (
                            H9 x0 z8 (IntKind.i64.wrap (x6 + (1 : Int))) b346 (IntKind.i64.wrap (b346_1 + (1 : Int))) b347 ((b314).set (0) (putD r14 0 [(DV.v (Value.int IntKind.i64 (c16).2))])) c) (
                            cond ((((((((((c16).1).1).2).2).2).2).2).2).1) (
                              H9 x0 (0 : Int) (IntKind.i64.wrap (x6 + (1 : Int))) b346 (IntKind.i64.wrap (b346_1 + (1 : Int))) b347 ((b314).set (0) (putD r14 0 [(DV.v (Value.int IntKind.i64 (c16).2))])) c) (
                              H9 x0 x5 (IntKind.i64.wrap (x6 + (1 : Int))) b346 (IntKind.i64.wrap (b346_1 + (1 : Int))) b347 ((b314).set (0) (putD r14 0 [(DV.v (Value.int IntKind.i64 (c16).2))])) c))) (
                          cond ((((((((((c16).1).1).2).2).2).2).2).2).1) (
                            H9 x0 (0 : Int) (IntKind.i64.wrap (x6 + (1 : Int))) b346 (IntKind.i64.wrap (b346_1 + (1 : Int))) b347 ((b314).set (0) (putD r14 0 [(DV.v (Value.int IntKind.i64 (c16).2))])) c) (
                            H9 x0 x5 (IntKind.i64.wrap (x6 + (1 : Int))) b346 (IntKind.i64.wrap (b346_1 + (1 : Int))) b347 ((b314).set (0) (putD r14 0 [(DV.v (Value.int IntKind.i64 (c16).2))])) c)))))) (
                  cond ((z4 == (5 : Int))) (
                    cond ((!((((((((((c16).1).1).2).2).2).2).2).2).1 == (x5 == z8)))) (
                      c = (false, ())) (
                      cond ((((((((((c16).1).1).2).2).2).2).2).2).1) (
                        cond ((z4 == (4 : Int))) (
                          H9 x0 z8 (IntKind.i64.wrap (x6 + (1 : Int))) b346 (IntKind.i64.wrap (b346_1 + (1 : Int))) b347 ((b314).set (0) (putD r14 0 [(DV.v (Value.int IntKind.i64 (c16).2))])) c) (
                          cond ((((((((((c16).1).1).2).2).2).2).2).2).1) (
                            H9 x0 (0 : Int) (IntKind.i64.wrap (x6 + (1 : Int))) b346 (IntKind.i64.wrap (b346_1 + (1 : Int))) b347 ((b314).set (0) (putD r14 0 [(DV.v (Value.int IntKind.i64 (c16).2))])) c) (
                            H9 x0 x5 (IntKind.i64.wrap (x6 + (1 : Int))) b346 (IntKind.i64.wrap (b346_1 + (1 : Int))) b347 ((b314).set (0) (putD r14 0 [(DV.v (Value.int IntKind.i64 (c16).2))])) c))) (
                        cond ((((((((((c16).1).1).2).2).2).2).2).2).1) (
                          H9 x0 (0 : Int) (IntKind.i64.wrap (x6 + (1 : Int))) b346 (IntKind.i64.wrap (b346_1 + (1 : Int))) b347 ((b314).set (0) (putD r14 0 [(DV.v (Value.int IntKind.i64 (c16).2))])) c) (
                          H9 x0 x5 (IntKind.i64.wrap (x6 + (1 : Int))) b346 (IntKind.i64.wrap (b346_1 + (1 : Int))) b347 ((b314).set (0) (putD r14 0 [(DV.v (Value.int IntKind.i64 (c16).2))])) c)))) (
                    cond ((!((((((((((c16).1).1).2).2).2).2).2).2).1 == false))) (
                      c = (false, ())) (
                      cond ((((((((((c16).1).1).2).2).2).2).2).2).1) (
                        cond ((z4 == (4 : Int))) (
                          H9 x0 z8 (IntKind.i64.wrap (x6 + (1 : Int))) b346 (IntKind.i64.wrap (b346_1 + (1 : Int))) b347 ((b314).set (0) (putD r14 0 [(DV.v (Value.int IntKind.i64 (c16).2))])) c) (
                          cond ((((((((((c16).1).1).2).2).2).2).2).2).1) (
                            H9 x0 (0 : Int) (IntKind.i64.wrap (x6 + (1 : Int))) b346 (IntKind.i64.wrap (b346_1 + (1 : Int))) b347 ((b314).set (0) (putD r14 0 [(DV.v (Value.int IntKind.i64 (c16).2))])) c) (
                            H9 x0 x5 (IntKind.i64.wrap (x6 + (1 : Int))) b346 (IntKind.i64.wrap (b346_1 + (1 : Int))) b347 ((b314).set (0) (putD r14 0 [(DV.v (Value.int IntKind.i64 (c16).2))])) c))) (
                        cond ((((((((((c16).1).1).2).2).2).2).2).2).1) (
                          H9 x0 (0 : Int) (IntKind.i64.wrap (x6 + (1 : Int))) b346 (IntKind.i64.wrap (b346_1 + (1 : Int))) b347 ((b314).set (0) (putD r14 0 [(DV.v (Value.int IntKind.i64 (c16).2))])) c) (
                          H9 x0 x5 (IntKind.i64.wrap (x6 + (1 : Int))) b346 (IntKind.i64.wrap (b346_1 + (1 : Int))) b347 ((b314).set (0) (putD r14 0 [(DV.v (Value.int IntKind.i64 (c16).2))])) c))))))))))))) (
      optAll (law04_live.R) fun (c17 : (Bool × Unit)) =>
      c = ((c17).1, ()))) : H9 x0 x5 x6 b346 b346_1 b347 b314 c := head_rule (n := 400) (noSum_ok _) (by kernel_rfl) h
end law04_CellsLocks
/-! garrison/garrisonlaw04.CellsOnce -/
namespace law04_CellsOnce
def lv : Live := [((9, 1048576), [0, 3, 5, 6, 7, 8, 9], [117, 421, 565])]
abbrev H9 (x0 : List (List DV)) (x5 : List (List DV)) (x7 : List (List DV)) (x9 : Int) (b117 : Int) (b117_1 : Int) (b117_2 : Int) (b117_3 : Int) (b117_4 : Int) (b421 : Int) (b421_1 : Int) (b421_2 : Int) (b421_3 : Int) (b421_4 : Int) (b421_5 : Int) (b421_6 : Bool) (b565 : Int) (b565_1 : Int) (b565_2 : Int) (b565_3 : Int) (b565_4 : Int) (b565_5 : Int) (b565_6 : Bool) (c : (Bool × Unit)) : Prop := HeadAns cfg 5 sh lv (bd cfg 5 [1, 1, 1, 1, 1, 0, 1, 0, 0]) 1048576 [.inBlock 0, .code (bd cfg 5 [1, 1, 1, 1, 1, 1])]
  [(AV.d (DV.lst 1 x0)), (AV.ptr 117 0 0 0), (AV.d (DV.lst 1 x5)), (AV.ptr 421 0 0 0), (AV.d (DV.lst 1 x7)), (AV.ptr 565 0 0 0), (AV.d (DV.v (Value.int IntKind.i64 x9)))] [(Option.some (VBlk.cell 5 0 [(AV.d (DV.v (Value.int IntKind.i64 b117))), (AV.d (DV.v (Value.int IntKind.i64 b117_1))), (AV.d (DV.v (Value.int IntKind.i64 b117_2))), (AV.d (DV.v (Value.int IntKind.i64 b117_3))), (AV.d (DV.v (Value.int IntKind.i64 b117_4)))])), (Option.some (VBlk.cell 7 0 [(AV.d (DV.v (Value.int IntKind.i64 b421))), (AV.d (DV.v (Value.int IntKind.i64 b421_1))), (AV.d (DV.v (Value.int IntKind.i64 b421_2))), (AV.d (DV.v (Value.int IntKind.i64 b421_3))), (AV.d (DV.v (Value.int IntKind.i64 b421_4))), (AV.d (DV.v (Value.int IntKind.i64 b421_5))), (AV.d (DV.v (Value.bool b421_6)))])), (Option.some (VBlk.cell 7 0 [(AV.d (DV.v (Value.int IntKind.i64 b565))), (AV.d (DV.v (Value.int IntKind.i64 b565_1))), (AV.d (DV.v (Value.int IntKind.i64 b565_2))), (AV.d (DV.v (Value.int IntKind.i64 b565_3))), (AV.d (DV.v (Value.int IntKind.i64 b565_4))), (AV.d (DV.v (Value.int IntKind.i64 b565_5))), (AV.d (DV.v (Value.bool b565_6)))]))] 1048576 c
theorem start (a0 : List (List DV)) (a1_0 : Int) (a1_1 : Int) (a1_2 : Int) (a1_3 : Int) (a1_4 : Int) (c : (Bool × Unit)) (h :
    cond (decide (((((a0).length : Nat) : Int) > (100 : Int)))) (
      optAll (law04_live.R) fun (c0 : (Bool × Unit)) =>
      c = ((c0).1, ())) (
      optAll (cells_Check.R a1_0 a1_1 a1_2 a1_3 a1_4 (((a0).length : Nat) : Int)) fun (c1 : (Int × Unit)) =>
      optAll (law04_num.R (c1).1) fun (c2 : (Int × Unit)) =>
      cond (((c2).1 != (0 : Int))) (
        optAll (law04_live.R) fun (c3 : (Bool × Unit)) =>
        c = ((c3).1, ())) (
        optAll (cells_Apply.R a0 a1_0 a1_1 a1_2 a1_3 a1_4) fun (c4 : (List (List DV) × ((Int × (Int × (Int × (Int × (Int × (Int × (Bool × Unit))))))) × Unit))) =>
        optAll (cells_Apply.R (c4).1 a1_0 a1_1 a1_2 a1_3 a1_4) fun (c5 : (List (List DV) × ((Int × (Int × (Int × (Int × (Int × (Int × (Bool × Unit))))))) × Unit))) =>
        cond ((((((c4).1).length : Nat) : Int) != (((a0).length : Nat) : Int))) (
          c = (false, ())) (
          cond ((((((c5).1).length : Nat) : Int) != (((a0).length : Nat) : Int))) (
            c = (false, ())) (
            H9 a0 (c4).1 (c5).1 (0 : Int) a1_0 a1_1 a1_2 a1_3 a1_4 (((c4).2).1).1 ((((c4).2).1).2).1 (((((c4).2).1).2).2).1 ((((((c4).2).1).2).2).2).1 (((((((c4).2).1).2).2).2).2).1 ((((((((c4).2).1).2).2).2).2).2).1 (((((((((c4).2).1).2).2).2).2).2).2).1 (((c5).2).1).1 ((((c5).2).1).2).1 (((((c5).2).1).2).2).1 ((((((c5).2).1).2).2).2).1 (((((((c5).2).1).2).2).2).2).1 ((((((((c5).2).1).2).2).2).2).2).1 (((((((((c5).2).1).2).2).2).2).2).2).1 c))))) : R a0 a1_0 a1_1 a1_2 a1_3 a1_4 = some c := start_rule (n := 400) (lv := lv) (noSum_ok _) (by kernel_rfl) h
theorem H9_step (x0 : List (List DV)) (x5 : List (List DV)) (x7 : List (List DV)) (x9 : Int) (b117 : Int) (b117_1 : Int) (b117_2 : Int) (b117_3 : Int) (b117_4 : Int) (b421 : Int) (b421_1 : Int) (b421_2 : Int) (b421_3 : Int) (b421_4 : Int) (b421_5 : Int) (b421_6 : Bool) (b565 : Int) (b565_1 : Int) (b565_2 : Int) (b565_3 : Int) (b565_4 : Int) (b565_5 : Int) (b565_6 : Bool) (c : (Bool × Unit)) (h :
    cond (decide ((x9 < (((x0).length : Nat) : Int)))) (
      cond ((x9 != b117_1)) (
        needs ((0 : Int) ≤ x9) (
        optAll ((x5)[(Int.toNat x9)]?) fun (r6 : List DV) =>
        optAll ((dInt IntKind.i64 r6 0)) fun (z7 : Int) =>
        needs ((0 : Int) ≤ x9) (
        optAll ((x0)[(Int.toNat x9)]?) fun (r8 : List DV) =>
        optAll ((dInt IntKind.i64 r8 0)) fun (z9 : Int) =>
        cond ((z7 != z9)) (
          c = (false, ())) (
          H9 x0 x5 x7 (IntKind.i64.wrap (x9 + (1 : Int))) b117 b117_1 b117_2 b117_3 b117_4 b421 b421_1 b421_2 b421_3 b421_4 b421_5 b421_6 b565 b565_1 b565_2 b565_3 b565_4 b565_5 b565_6 c)))) (
        H9 x0 x5 x7 (IntKind.i64.wrap (x9 + (1 : Int))) b117 b117_1 b117_2 b117_3 b117_4 b421 b421_1 b421_2 b421_3 b421_4 b421_5 b421_6 b565 b565_1 b565_2 b565_3 b565_4 b565_5 b565_6 c)) (
      cond ((!b421_6)) (
        optAll (ref04_Values.R x5 x0) fun (c10 : (Bool × Unit)) =>
        cond ((!(c10).1)) (
          c = (false, ())) (
          cond (b565_6) (
            c = (false, ())) (
            cond ((b117 == (1 : Int))) (
              optAll (ref04_Values.R x5 x7) fun (c11 : (Bool × Unit)) =>
              cond ((!(c11).1)) (
                c = (false, ())) (
                needs ((0 : Int) ≤ b117_1) (
                optAll ((x0)[(Int.toNat b117_1)]?) fun (r12 : List DV) =>
                optAll ((dInt IntKind.i64 r12 0)) fun (z13 : Int) =>
                cond ((b421_5 == z13)) (
                  needs ((0 : Int) ≤ b117_1) (
                  optAll ((x5)[(Int.toNat b117_1)]?) fun (r14 : List DV) =>
                  optAll ((dInt IntKind.i64 r14 0)) fun (z15 : Int) =>
                  cond ((b565_5 == z15)) (
                    optAll (law04_live.R) fun (c16 : (Bool × Unit)) =>
                    c = ((c16).1, ())) (
                    c = (false, ())))) (
                  c = (false, ()))))) (
              cond ((b117 == (2 : Int))) (
                optAll (ref04_Values.R x5 x7) fun (c17 : (Bool × Unit)) =>
                cond ((!(c17).1)) (
                  c = (false, ())) (
                  needs ((0 : Int) ≤ b117_1) (
                  optAll ((x0)[(Int.toNat b117_1)]?) fun (r18 : List DV) =>
                  optAll ((dInt IntKind.i64 r18 0)) fun (z19 : Int) =>
                  cond ((b421_5 == z19)) (
                    needs ((0 : Int) ≤ b117_1) (
                    optAll ((x5)[(Int.toNat b117_1)]?) fun (r20 : List DV) =>
                    optAll ((dInt IntKind.i64 r20 0)) fun (z21 : Int) =>
                    cond ((b565_5 == z21)) (
                      optAll (law04_live.R) fun (c22 : (Bool × Unit)) =>
                      c = ((c22).1, ())) (
                      c = (false, ())))) (
                    c = (false, ()))))) (
                needs ((0 : Int) ≤ b117_1) (
                optAll ((x0)[(Int.toNat b117_1)]?) fun (r23 : List DV) =>
                optAll ((dInt IntKind.i64 r23 0)) fun (z24 : Int) =>
                cond ((b421_5 == z24)) (
                  needs ((0 : Int) ≤ b117_1) (
                  optAll ((x5)[(Int.toNat b117_1)]?) fun (r25 : List DV) =>
                  optAll ((dInt IntKind.i64 r25 0)) fun (z26 : Int) =>
                  cond ((b565_5 == z26)) (
                    optAll (law04_live.R) fun (c27 : (Bool × Unit)) =>
                    c = ((c27).1, ())) (
                    c = (false, ())))) (
                  c = (false, ())))))))) (
        cond ((b117 == (1 : Int))) (
          optAll (ref04_Values.R x5 x7) fun (c28 : (Bool × Unit)) =>
          cond ((!(c28).1)) (
            c = (false, ())) (
            needs ((0 : Int) ≤ b117_1) (
            optAll ((x0)[(Int.toNat b117_1)]?) fun (r29 : List DV) =>
            optAll ((dInt IntKind.i64 r29 0)) fun (z30 : Int) =>
            cond ((b421_5 == z30)) (
              needs ((0 : Int) ≤ b117_1) (
              optAll ((x5)[(Int.toNat b117_1)]?) fun (r31 : List DV) =>
              optAll ((dInt IntKind.i64 r31 0)) fun (z32 : Int) =>
              cond ((b565_5 == z32)) (
                optAll (law04_live.R) fun (c33 : (Bool × Unit)) =>
                c = ((c33).1, ())) (
                c = (false, ())))) (
              c = (false, ()))))) (
          cond ((b117 == (2 : Int))) (
            optAll (ref04_Values.R x5 x7) fun (c34 : (Bool × Unit)) =>
            cond ((!(c34).1)) (
              c = (false, ())) (
              needs ((0 : Int) ≤ b117_1) (
              optAll ((x0)[(Int.toNat b117_1)]?) fun (r35 : List DV) =>
              optAll ((dInt IntKind.i64 r35 0)) fun (z36 : Int) =>
              cond ((b421_5 == z36)) (
                needs ((0 : Int) ≤ b117_1) (
                optAll ((x5)[(Int.toNat b117_1)]?) fun (r37 : List DV) =>
                optAll ((dInt IntKind.i64 r37 0)) fun (z38 : Int) =>
                cond ((b565_5 == z38)) (
                  optAll (law04_live.R) fun (c39 : (Bool × Unit)) =>
                  c = ((c39).1, ())) (
                  c = (false, ())))) (
                c = (false, ()))))) (
            needs ((0 : Int) ≤ b117_1) (
            optAll ((x0)[(Int.toNat b117_1)]?) fun (r40 : List DV) =>
            optAll ((dInt IntKind.i64 r40 0)) fun (z41 : Int) =>
            cond ((b421_5 == z41)) (
              needs ((0 : Int) ≤ b117_1) (
              optAll ((x5)[(Int.toNat b117_1)]?) fun (r42 : List DV) =>
              optAll ((dInt IntKind.i64 r42 0)) fun (z43 : Int) =>
              cond ((b565_5 == z43)) (
                optAll (law04_live.R) fun (c44 : (Bool × Unit)) =>
                c = ((c44).1, ())) (
                c = (false, ())))) (
              c = (false, ())))))))) : H9 x0 x5 x7 x9 b117 b117_1 b117_2 b117_3 b117_4 b421 b421_1 b421_2 b421_3 b421_4 b421_5 b421_6 b565 b565_1 b565_2 b565_3 b565_4 b565_5 b565_6 c := head_rule (n := 400) (noSum_ok _) (by kernel_rfl) h
end law04_CellsOnce
/-! garrison/garrisonlaw04.CellsApart -/
namespace law04_CellsApart
def lv : Live := []
theorem start (a0 : List (List DV)) (a1_0 : Int) (a1_1 : Int) (a1_2 : Int) (a1_3 : Int) (a1_4 : Int) (a2_0 : Int) (a2_1 : Int) (a2_2 : Int) (a2_3 : Int) (a2_4 : Int) (c : (Bool × Unit)) (h :
    cond (decide (((((a0).length : Nat) : Int) > (100 : Int)))) (
      optAll (law04_live.R) fun (c0 : (Bool × Unit)) =>
      c = ((c0).1, ())) (
      cond ((a1_1 == a2_1)) (
        optAll (law04_live.R) fun (c1 : (Bool × Unit)) =>
        c = ((c1).1, ())) (
        optAll (cells_Apply.R a0 a1_0 a1_1 a1_2 a1_3 a1_4) fun (c2 : (List (List DV) × ((Int × (Int × (Int × (Int × (Int × (Int × (Bool × Unit))))))) × Unit))) =>
        optAll (cells_Apply.R (c2).1 a2_0 a2_1 a2_2 a2_3 a2_4) fun (c3 : (List (List DV) × ((Int × (Int × (Int × (Int × (Int × (Int × (Bool × Unit))))))) × Unit))) =>
        optAll (cells_Apply.R a0 a2_0 a2_1 a2_2 a2_3 a2_4) fun (c4 : (List (List DV) × ((Int × (Int × (Int × (Int × (Int × (Int × (Bool × Unit))))))) × Unit))) =>
        optAll (cells_Apply.R (c4).1 a1_0 a1_1 a1_2 a1_3 a1_4) fun (c5 : (List (List DV) × ((Int × (Int × (Int × (Int × (Int × (Int × (Bool × Unit))))))) × Unit))) =>
        optAll (ref04_Values.R (c3).1 (c5).1) fun (c6 : (Bool × Unit)) =>
        cond ((c6).1) (
          cond ((((((c2).2).1).1 == (((c5).2).1).1) && ((((((c2).2).1).2).1 == ((((c5).2).1).2).1) && (((((((c2).2).1).2).2).1 == (((((c5).2).1).2).2).1) && ((((((((c2).2).1).2).2).2).1 == ((((((c5).2).1).2).2).2).1) && (((((((((c2).2).1).2).2).2).2).1 == (((((((c5).2).1).2).2).2).2).1) && ((((((((((c2).2).1).2).2).2).2).2).1 == ((((((((c5).2).1).2).2).2).2).2).1) && (((((((((((c2).2).1).2).2).2).2).2).2).1 == (((((((((c5).2).1).2).2).2).2).2).2).1) && true)))))))) (
            cond ((((((c3).2).1).1 == (((c4).2).1).1) && ((((((c3).2).1).2).1 == ((((c4).2).1).2).1) && (((((((c3).2).1).2).2).1 == (((((c4).2).1).2).2).1) && ((((((((c3).2).1).2).2).2).1 == ((((((c4).2).1).2).2).2).1) && (((((((((c3).2).1).2).2).2).2).1 == (((((((c4).2).1).2).2).2).2).1) && ((((((((((c3).2).1).2).2).2).2).2).1 == ((((((((c4).2).1).2).2).2).2).2).1) && (((((((((((c3).2).1).2).2).2).2).2).2).1 == (((((((((c4).2).1).2).2).2).2).2).2).1) && true)))))))) (
              optAll (law04_live.R) fun (c7 : (Bool × Unit)) =>
              c = ((c7).1, ())) (
              c = (false, ()))) (
            c = (false, ()))) (
          c = (false, ()))))) : R a0 a1_0 a1_1 a1_2 a1_3 a1_4 a2_0 a2_1 a2_2 a2_3 a2_4 = some c := start_rule (n := 400) (lv := lv) (noSum_ok _) (by kernel_rfl) h
end law04_CellsApart
/-! garrison/garrisonlaw04.CellsTrace -/
namespace law04_CellsTrace
def lv : Live := [((8, 1048576), [0, 1, 5, 7], [488, 456, 489]), ((14, 2097152), [5, 8, 9, 10], [488, 456, 489, 1048826])]
abbrev H8 (x0 : Int) (x1 : List (List DV)) (x7 : Int) (b488 : Nat) (b488_1 : Int) (b489 : List (List DV)) (b456 : List (List DV)) (c : (Bool × Unit)) : Prop := HeadAns cfg 7 sh lv (bd cfg 7 [1, 1, 1, 1, 0, 1, 0, 0]) 1048576 [.inBlock 0, .code (bd cfg 7 [1, 1, 1, 1, 1])]
  [(AV.d (DV.v (Value.int IntKind.i64 x0))), (AV.d (DV.lst 5 x1)), (AV.ptr 488 0 0 0), (AV.d (DV.v (Value.int IntKind.i64 x7)))] [(Option.some (VBlk.cell 3 0 [(AV.ref 456 0 0 b488), (AV.d (DV.v (Value.int IntKind.i64 b488_1))), (AV.ref 489 0 0 (List.length b489))])), (Option.some (VBlk.drow 1 0 b456)), (Option.some (VBlk.drow 7 0 b489))] 1048576 c
abbrev H14 (x8 : List (List DV)) (b1048826 : List (List DV)) (x10 : Int) (b488 : Nat) (b488_1 : Int) (b489 : List (List DV)) (b456 : List (List DV)) (c : (Bool × Unit)) : Prop := HeadAns cfg 7 sh lv (bd cfg 7 [1, 1, 1, 1, 1, 1, 1, 0, 1, 0, 0]) 2097152 [.inBlock 2, .code (bd cfg 7 [1, 1, 1, 1, 1, 1, 1, 1])]
  [(AV.ptr 488 0 0 0), (AV.d (DV.lst 1 x8)), (AV.ref 1048826 0 0 (List.length b1048826)), (AV.d (DV.v (Value.int IntKind.i64 x10)))] [(Option.some (VBlk.cell 3 0 [(AV.ref 456 0 0 b488), (AV.d (DV.v (Value.int IntKind.i64 b488_1))), (AV.ref 489 0 0 (List.length b489))])), (Option.some (VBlk.drow 1 0 b456)), (Option.some (VBlk.drow 7 0 b489)), (Option.some (VBlk.drow 7 0 b1048826))] 2097152 c
theorem start (a0 : Int) (a1 : List (List DV)) (c : (Bool × Unit)) (h :
    optAll (law04_small.R a1) fun (c0 : (Bool × Unit)) =>
    cond ((!(c0).1)) (
      optAll (law04_live.R) fun (c1 : (Bool × Unit)) =>
      c = ((c1).1, ())) (
      cond (decide ((a0 < (0 : Int)))) (
        optAll (law04_live.R) fun (c2 : (Bool × Unit)) =>
        c = ((c2).1, ())) (
        cond (decide ((a0 > (100 : Int)))) (
          optAll (law04_live.R) fun (c3 : (Bool × Unit)) =>
          c = ((c3).1, ())) (
          cond (decide ((a0 < (0 : Int)))) (
            optAll (law04_num.R (2 : Int)) fun (c4 : (Int × Unit)) =>
            cond (((c4).1 != (0 : Int))) (
              c = (false, ())) (
              c = (false, ()))) (
            cond (decide ((a0 > (4096 : Int)))) (
              optAll (law04_num.R (2 : Int)) fun (c5 : (Int × Unit)) =>
              cond (((c5).1 != (0 : Int))) (
                c = (false, ())) (
                c = (false, ()))) (
              needs ((a0 = a0) ∧ (((0 : Int) ≤ a0) ∧ (((a0 * (8 : Int)) ≤ (140737488355328 : Int)) ∧ ((a0 * (1 : Int)) ≤ (140737488355328 : Int))))) (
              optAll (law04_num.R (0 : Int)) fun (c6 : (Int × Unit)) =>
              cond (((c6).1 != (0 : Int))) (
                c = (false, ())) (
                H8 a0 a1 (0 : Int) (Int.toNat a0) (0 : Int) [] (List.replicate ((Int.toNat a0)) [(DV.v (Value.int IntKind.i64 (0 : Int)))]) c)))))))) : R a0 a1 = some c := start_rule (n := 400) (lv := lv) (noSum_ok _) (by kernel_rfl) h
theorem H8_step (x0 : Int) (x1 : List (List DV)) (x7 : Int) (b488 : Nat) (b488_1 : Int) (b489 : List (List DV)) (b456 : List (List DV)) (c : (Bool × Unit)) (h :
    cond (decide ((x7 < (((x1).length : Nat) : Int)))) (
      needs ((0 : Int) ≤ x7) (
      optAll ((x1)[(Int.toNat x7)]?) fun (r7 : List DV) =>
      optAll ((dInt IntKind.i64 r7 0)) fun (z8 : Int) =>
      optAll ((dInt IntKind.i64 r7 1)) fun (z9 : Int) =>
      optAll ((dInt IntKind.i64 r7 2)) fun (z10 : Int) =>
      optAll ((dInt IntKind.i64 r7 3)) fun (z11 : Int) =>
      optAll ((dInt IntKind.i64 r7 4)) fun (z12 : Int) =>
      optAll (cells_Check.R z8 z9 z10 z11 z12 ((b488 : Nat) : Int)) fun (c13 : (Int × Unit)) =>
      cond (((c13).1 != (0 : Int))) (
        H8 x0 x1 (IntKind.i64.wrap (x7 + (1 : Int))) b488 b488_1 b489 b456 c) (
        needs (((0 : Int) ≤ z9) ∧ (z9 < ((b488 : Nat) : Int))) (
        optAll ((b456)[(0 + (Int.toNat z9))]?) fun (r14 : List DV) =>
        optAll ((dInt IntKind.i64 r14 0)) fun (z15 : Int) =>
        optAll (cells_step.R z15 z8 z9 z10 z11 z12) fun (c16 : (((Int × (Int × (Int × (Int × (Int × (Int × (Bool × Unit))))))) × Unit) × Int)) =>
        cond (decide (((((b489).length : Nat) : Int) < (2000 : Int)))) (
          needs ((b489).length = (b489).length) (
          needs (((((b489 ++ (([[(DV.v (Value.int IntKind.i64 (((c16).1).1).1)), (DV.v (Value.int IntKind.i64 ((((c16).1).1).2).1)), (DV.v (Value.int IntKind.i64 (((((c16).1).1).2).2).1)), (DV.v (Value.int IntKind.i64 ((((((c16).1).1).2).2).2).1)), (DV.v (Value.int IntKind.i64 (((((((c16).1).1).2).2).2).2).1)), (DV.v (Value.int IntKind.i64 ((((((((c16).1).1).2).2).2).2).2).1)), (DV.v (Value.bool (((((((((c16).1).1).2).2).2).2).2).2).1))]]).take (1)))).length * 56) ≤ 140737488355328) ∧ ((((b489 ++ (([[(DV.v (Value.int IntKind.i64 (((c16).1).1).1)), (DV.v (Value.int IntKind.i64 ((((c16).1).1).2).1)), (DV.v (Value.int IntKind.i64 (((((c16).1).1).2).2).1)), (DV.v (Value.int IntKind.i64 ((((((c16).1).1).2).2).2).1)), (DV.v (Value.int IntKind.i64 (((((((c16).1).1).2).2).2).2).1)), (DV.v (Value.int IntKind.i64 ((((((((c16).1).1).2).2).2).2).2).1)), (DV.v (Value.bool (((((((((c16).1).1).2).2).2).2).2).2).1))]]).take (1)))).length * 7) ≤ 140737488355328)) (
          H8 x0 x1 (IntKind.i64.wrap (x7 + (1 : Int))) b488 (IntKind.i64.wrap (b488_1 + (1 : Int))) (b489 ++ (([[(DV.v (Value.int IntKind.i64 (((c16).1).1).1)), (DV.v (Value.int IntKind.i64 ((((c16).1).1).2).1)), (DV.v (Value.int IntKind.i64 (((((c16).1).1).2).2).1)), (DV.v (Value.int IntKind.i64 ((((((c16).1).1).2).2).2).1)), (DV.v (Value.int IntKind.i64 (((((((c16).1).1).2).2).2).2).1)), (DV.v (Value.int IntKind.i64 ((((((((c16).1).1).2).2).2).2).2).1)), (DV.v (Value.bool (((((((((c16).1).1).2).2).2).2).2).2).1))]]).take (1))) ((b456).set ((0 + (Int.toNat z9))) (putD r14 0 [(DV.v (Value.int IntKind.i64 (c16).2))])) c))) (
          H8 x0 x1 (IntKind.i64.wrap (x7 + (1 : Int))) b488 (IntKind.i64.wrap (b488_1 + (1 : Int))) b489 ((b456).set ((0 + (Int.toNat z9))) (putD r14 0 [(DV.v (Value.int IntKind.i64 (c16).2))])) c))))) (
      optAll (ref04_Zero.R x0) fun (c17 : (List (List DV) × Unit)) =>
      needs ((((((b489).take ((b489).length))).length * 56) ≤ 140737488355328) ∧ (((((b489).take ((b489).length))).length * 7) ≤ 140737488355328)) (
      H14 (c17).1 ((b489).take ((b489).length)) (0 : Int) b488 b488_1 b489 b456 c))) : H8 x0 x1 x7 b488 b488_1 b489 b456 c := head_rule (n := 400) (noSum_ok _) (by kernel_rfl) h
theorem H14_step (x8 : List (List DV)) (b1048826 : List (List DV)) (x10 : Int) (b488 : Nat) (b488_1 : Int) (b489 : List (List DV)) (b456 : List (List DV)) (c : (Bool × Unit)) (h :
    cond (decide ((x10 < (((b1048826).length : Nat) : Int)))) (
      needs (((0 : Int) ≤ x10) ∧ (x10 < (((b1048826).length : Nat) : Int))) (
      optAll ((b1048826)[(0 + (Int.toNat x10))]?) fun (r18 : List DV) =>
      optAll ((dInt IntKind.i64 r18 0)) fun (z19 : Int) =>
      optAll ((dInt IntKind.i64 r18 1)) fun (z20 : Int) =>
      optAll ((dInt IntKind.i64 r18 2)) fun (z21 : Int) =>
      optAll ((dInt IntKind.i64 r18 3)) fun (z22 : Int) =>
      optAll ((dInt IntKind.i64 r18 4)) fun (z23 : Int) =>
      optAll (cells_Apply.R x8 z19 z20 z21 z22 z23) fun (c24 : (List (List DV) × ((Int × (Int × (Int × (Int × (Int × (Int × (Bool × Unit))))))) × Unit))) =>
      needs (((0 : Int) ≤ x10) ∧ (x10 < (((b1048826).length : Nat) : Int))) (
      optAll ((b1048826)[(0 + (Int.toNat x10))]?) fun (r25 : List DV) =>
      optAll ((dInt IntKind.i64 r25 0)) fun (z26 : Int) =>
      optAll ((dInt IntKind.i64 r25 1)) fun (z27 : Int) =>
      optAll ((dInt IntKind.i64 r25 2)) fun (z28 : Int) =>
      optAll ((dInt IntKind.i64 r25 3)) fun (z29 : Int) =>
      optAll ((dInt IntKind.i64 r25 4)) fun (z30 : Int) =>
      optAll ((dInt IntKind.i64 r25 5)) fun (z31 : Int) =>
      optAll ((dBool r25 6)) fun (z32 : Bool) =>
      cond ((!(((((c24).2).1).1 == z26) && ((((((c24).2).1).2).1 == z27) && (((((((c24).2).1).2).2).1 == z28) && ((((((((c24).2).1).2).2).2).1 == z29) && (((((((((c24).2).1).2).2).2).2).1 == z30) && ((((((((((c24).2).1).2).2).2).2).2).1 == z31) && (((((((((((c24).2).1).2).2).2).2).2).2).1 == z32) && true))))))))) (
        c = (false, ())) (
        H14 (c24).1 b1048826 (IntKind.i64.wrap (x10 + (1 : Int))) b488 b488_1 b489 b456 c)))) (
      needs ((((((b456).take (b488))).length * 8) ≤ 140737488355328) ∧ (((((b456).take (b488))).length * 1) ≤ 140737488355328)) (
      optAll (ref04_Values.R x8 ((((b456).take (b488))).take ((((b456).take (b488))).length))) fun (c33 : (Bool × Unit)) =>
      cond ((c33).1) (
        cond (((((b1048826).length : Nat) : Int) == b488_1)) (
          optAll (law04_live.R) fun (c34 : (Bool × Unit)) =>
          c = ((c34).1, ())) (
          c = (false, ()))) (
        c = (false, ()))))) : H14 x8 b1048826 x10 b488 b488_1 b489 b456 c := head_rule (n := 400) (noSum_ok _) (by kernel_rfl) h
end law04_CellsTrace
/-! garrison/garrisonlaw04.CellsRuns -/
namespace law04_CellsRuns
def lv : Live := [((12, 1048576), [0, 1, 5, 7, 8, 9], [550, 518, 551, 8])]
abbrev H12 (x0 : Int) (x1 : List (List DV)) (x7 : List (List DV)) (b8 : List (List DV)) (x9 : Int) (b550 : Nat) (b550_1 : Int) (b551 : List (List DV)) (b518 : List (List DV)) (c : (Bool × Unit)) : Prop := HeadAns cfg 8 sh lv (bd cfg 8 [1, 1, 1, 1, 1, 1, 1, 0, 1, 0, 0]) 1048576 [.inBlock 0, .code (bd cfg 8 [1, 1, 1, 1, 1, 1, 1, 1])]
  [(AV.d (DV.v (Value.int IntKind.i64 x0))), (AV.d (DV.lst 5 x1)), (AV.ptr 550 0 0 0), (AV.d (DV.lst 1 x7)), (AV.ref 8 0 0 (List.length b8)), (AV.d (DV.v (Value.int IntKind.i64 x9)))] [(Option.some (VBlk.cell 3 0 [(AV.ref 518 0 0 b550), (AV.d (DV.v (Value.int IntKind.i64 b550_1))), (AV.ref 551 0 0 (List.length b551))])), (Option.some (VBlk.drow 1 0 b518)), (Option.some (VBlk.drow 7 0 b551)), (Option.some (VBlk.drow 7 0 b8))] 1048576 c
theorem start (a0 : Int) (a1 : List (List DV)) (c : (Bool × Unit)) (h :
    optAll (law04_small.R a1) fun (c0 : (Bool × Unit)) =>
    cond ((!(c0).1)) (
      optAll (law04_live.R) fun (c1 : (Bool × Unit)) =>
      c = ((c1).1, ())) (
      cond (decide ((a0 > (100 : Int)))) (
        cond (decide ((a0 ≤ (4096 : Int)))) (
          optAll (law04_live.R) fun (c2 : (Bool × Unit)) =>
          c = ((c2).1, ())) (
          cond (decide ((a0 < (0 : Int)))) (
            optAll (law04_num.R (2 : Int)) fun (c3 : (Int × Unit)) =>
            cond (decide ((a0 ≥ (0 : Int)))) (
              cond ((!(((c3).1 == (0 : Int)) == decide ((a0 ≤ (4096 : Int)))))) (
                c = (false, ())) (
                optAll (law04_num.R (2 : Int)) fun (c4 : (Int × Unit)) =>
                cond ((!(true == ((c4).1 != (0 : Int))))) (
                  c = (false, ())) (
                  optAll (law04_num.R (2 : Int)) fun (c5 : (Int × Unit)) =>
                  cond (((c5).1 == (2 : Int))) (
                    optAll (law04_live.R) fun (c6 : (Bool × Unit)) =>
                    c = ((c6).1, ())) (
                    c = (false, ()))))) (
              cond ((!(((c3).1 == (0 : Int)) == false))) (
                c = (false, ())) (
                optAll (law04_num.R (2 : Int)) fun (c7 : (Int × Unit)) =>
                cond ((!(true == ((c7).1 != (0 : Int))))) (
                  c = (false, ())) (
                  optAll (law04_num.R (2 : Int)) fun (c8 : (Int × Unit)) =>
                  cond (((c8).1 == (2 : Int))) (
                    optAll (law04_live.R) fun (c9 : (Bool × Unit)) =>
                    c = ((c9).1, ())) (
                    c = (false, ())))))) (
            cond (decide ((a0 > (4096 : Int)))) (
              optAll (law04_num.R (2 : Int)) fun (c10 : (Int × Unit)) =>
              cond (decide ((a0 ≥ (0 : Int)))) (
                cond ((!(((c10).1 == (0 : Int)) == decide ((a0 ≤ (4096 : Int)))))) (
                  c = (false, ())) (
                  optAll (law04_num.R (2 : Int)) fun (c11 : (Int × Unit)) =>
                  cond ((!(true == ((c11).1 != (0 : Int))))) (
                    c = (false, ())) (
                    optAll (law04_num.R (2 : Int)) fun (c12 : (Int × Unit)) =>
                    cond (((c12).1 == (2 : Int))) (
                      optAll (law04_live.R) fun (c13 : (Bool × Unit)) =>
                      c = ((c13).1, ())) (
                      c = (false, ()))))) (
                cond ((!(((c10).1 == (0 : Int)) == false))) (
                  c = (false, ())) (
                  optAll (law04_num.R (2 : Int)) fun (c14 : (Int × Unit)) =>
                  cond ((!(true == ((c14).1 != (0 : Int))))) (
                    c = (false, ())) (
                    optAll (law04_num.R (2 : Int)) fun (c15 : (Int × Unit)) =>
                    cond (((c15).1 == (2 : Int))) (
                      optAll (law04_live.R) fun (c16 : (Bool × Unit)) =>
                      c = ((c16).1, ())) (
                      c = (false, ())))))) (
              needs ((a0 = a0) ∧ (((0 : Int) ≤ a0) ∧ (((a0 * (8 : Int)) ≤ (140737488355328 : Int)) ∧ ((a0 * (1 : Int)) ≤ (140737488355328 : Int))))) (
              optAll (law04_num.R (0 : Int)) fun (c17 : (Int × Unit)) =>
              cond (decide ((a0 ≥ (0 : Int)))) (
                cond ((!(((c17).1 == (0 : Int)) == decide ((a0 ≤ (4096 : Int)))))) (
                  c = (false, ())) (
                  optAll (law04_num.R (0 : Int)) fun (c18 : (Int × Unit)) =>
                  cond ((!(false == ((c18).1 != (0 : Int))))) (
                    c = (false, ())) (
                    optAll (ref04_Zero.R a0) fun (c19 : (List (List DV) × Unit)) =>
                    H12 a0 a1 (c19).1 [] (0 : Int) (Int.toNat a0) (0 : Int) [] (List.replicate ((Int.toNat a0)) [(DV.v (Value.int IntKind.i64 (0 : Int)))]) c))) (
                cond ((!(((c17).1 == (0 : Int)) == false))) (
                  c = (false, ())) (
                  optAll (law04_num.R (0 : Int)) fun (c20 : (Int × Unit)) =>
                  cond ((!(false == ((c20).1 != (0 : Int))))) (
                    c = (false, ())) (
                    optAll (ref04_Zero.R a0) fun (c21 : (List (List DV) × Unit)) =>
                    H12 a0 a1 (c21).1 [] (0 : Int) (Int.toNat a0) (0 : Int) [] (List.replicate ((Int.toNat a0)) [(DV.v (Value.int IntKind.i64 (0 : Int)))]) c)))))))) (
        cond (decide ((a0 < (0 : Int)))) (
          optAll (law04_num.R (2 : Int)) fun (c22 : (Int × Unit)) =>
          cond (decide ((a0 ≥ (0 : Int)))) (
            cond ((!(((c22).1 == (0 : Int)) == decide ((a0 ≤ (4096 : Int)))))) (
              c = (false, ())) (
              optAll (law04_num.R (2 : Int)) fun (c23 : (Int × Unit)) =>
              cond ((!(true == ((c23).1 != (0 : Int))))) (
                c = (false, ())) (
                optAll (law04_num.R (2 : Int)) fun (c24 : (Int × Unit)) =>
                cond (((c24).1 == (2 : Int))) (
                  optAll (law04_live.R) fun (c25 : (Bool × Unit)) =>
                  c = ((c25).1, ())) (
                  c = (false, ()))))) (
            cond ((!(((c22).1 == (0 : Int)) == false))) (
              c = (false, ())) (
              optAll (law04_num.R (2 : Int)) fun (c26 : (Int × Unit)) =>
              cond ((!(true == ((c26).1 != (0 : Int))))) (
                c = (false, ())) (
                optAll (law04_num.R (2 : Int)) fun (c27 : (Int × Unit)) =>
                cond (((c27).1 == (2 : Int))) (
                  optAll (law04_live.R) fun (c28 : (Bool × Unit)) =>
                  c = ((c28).1, ())) (
                  c = (false, ())))))) (
          cond (decide ((a0 > (4096 : Int)))) (
            optAll (law04_num.R (2 : Int)) fun (c29 : (Int × Unit)) =>
            cond (decide ((a0 ≥ (0 : Int)))) (
              cond ((!(((c29).1 == (0 : Int)) == decide ((a0 ≤ (4096 : Int)))))) (
                c = (false, ())) (
                optAll (law04_num.R (2 : Int)) fun (c30 : (Int × Unit)) =>
                cond ((!(true == ((c30).1 != (0 : Int))))) (
                  c = (false, ())) (
                  optAll (law04_num.R (2 : Int)) fun (c31 : (Int × Unit)) =>
                  cond (((c31).1 == (2 : Int))) (
                    optAll (law04_live.R) fun (c32 : (Bool × Unit)) =>
                    c = ((c32).1, ())) (
                    c = (false, ()))))) (
              cond ((!(((c29).1 == (0 : Int)) == false))) (
                c = (false, ())) (
                optAll (law04_num.R (2 : Int)) fun (c33 : (Int × Unit)) =>
                cond ((!(true == ((c33).1 != (0 : Int))))) (
                  c = (false, ())) (
                  optAll (law04_num.R (2 : Int)) fun (c34 : (Int × Unit)) =>
                  cond (((c34).1 == (2 : Int))) (
                    optAll (law04_live.R) fun (c35 : (Bool × Unit)) =>
                    c = ((c35).1, ())) (
                    c = (false, ())))))) (
            needs ((a0 = a0) ∧ (((0 : Int) ≤ a0) ∧ (((a0 * (8 : Int)) ≤ (140737488355328 : Int)) ∧ ((a0 * (1 : Int)) ≤ (140737488355328 : Int))))) (
            optAll (law04_num.R (0 : Int)) fun (c36 : (Int × Unit)) =>
            cond (decide ((a0 ≥ (0 : Int)))) (
              cond ((!(((c36).1 == (0 : Int)) == decide ((a0 ≤ (4096 : Int)))))) (
                c = (false, ())) (
                optAll (law04_num.R (0 : Int)) fun (c37 : (Int × Unit)) =>
                cond ((!(false == ((c37).1 != (0 : Int))))) (
                  c = (false, ())) (
                  optAll (ref04_Zero.R a0) fun (c38 : (List (List DV) × Unit)) =>
                  H12 a0 a1 (c38).1 [] (0 : Int) (Int.toNat a0) (0 : Int) [] (List.replicate ((Int.toNat a0)) [(DV.v (Value.int IntKind.i64 (0 : Int)))]) c))) (
              cond ((!(((c36).1 == (0 : Int)) == false))) (
                c = (false, ())) (
                optAll (law04_num.R (0 : Int)) fun (c39 : (Int × Unit)) =>
                cond ((!(false == ((c39).1 != (0 : Int))))) (
                  c = (false, ())) (
                  optAll (ref04_Zero.R a0) fun (c40 : (List (List DV) × Unit)) =>
                  H12 a0 a1 (c40).1 [] (0 : Int) (Int.toNat a0) (0 : Int) [] (List.replicate ((Int.toNat a0)) [(DV.v (Value.int IntKind.i64 (0 : Int)))]) c))))))))) : R a0 a1 = some c := start_rule (n := 400) (lv := lv) (noSum_ok _) (by kernel_rfl) h
theorem H12_step (x0 : Int) (x1 : List (List DV)) (x7 : List (List DV)) (b8 : List (List DV)) (x9 : Int) (b550 : Nat) (b550_1 : Int) (b551 : List (List DV)) (b518 : List (List DV)) (c : (Bool × Unit)) (h :
    cond (decide ((x9 < (((x1).length : Nat) : Int)))) (
      needs ((0 : Int) ≤ x9) (
      optAll ((x1)[(Int.toNat x9)]?) fun (r41 : List DV) =>
      optAll ((dInt IntKind.i64 r41 0)) fun (z42 : Int) =>
      optAll ((dInt IntKind.i64 r41 1)) fun (z43 : Int) =>
      optAll ((dInt IntKind.i64 r41 2)) fun (z44 : Int) =>
      optAll ((dInt IntKind.i64 r41 3)) fun (z45 : Int) =>
      optAll ((dInt IntKind.i64 r41 4)) fun (z46 : Int) =>
      optAll (cells_Check.R z42 z43 z44 z45 z46 ((b550 : Nat) : Int)) fun (c47 : (Int × Unit)) =>
      cond (((c47).1 != (0 : Int))) (
        needs ((0 : Int) ≤ x9) (
        optAll ((x1)[(Int.toNat x9)]?) fun (r48 : List DV) =>
        optAll ((dInt IntKind.i64 r48 0)) fun (z49 : Int) =>
        optAll ((dInt IntKind.i64 r48 1)) fun (z50 : Int) =>
        optAll ((dInt IntKind.i64 r48 2)) fun (z51 : Int) =>
        optAll ((dInt IntKind.i64 r48 3)) fun (z52 : Int) =>
        optAll ((dInt IntKind.i64 r48 4)) fun (z53 : Int) =>
        optAll (ref04_Apply.R x7 z49 z50 z51 z52 z53) fun (c54 : (List (List DV) × ((Int × (Int × (Int × (Int × (Int × (Int × (Bool × Unit))))))) × Unit))) =>
        needs ((0 : Int) ≤ x9) (
        optAll ((x1)[(Int.toNat x9)]?) fun (r55 : List DV) =>
        optAll ((dInt IntKind.i64 r55 0)) fun (z56 : Int) =>
        optAll ((dInt IntKind.i64 r55 1)) fun (z57 : Int) =>
        optAll ((dInt IntKind.i64 r55 2)) fun (z58 : Int) =>
        optAll ((dInt IntKind.i64 r55 3)) fun (z59 : Int) =>
        optAll ((dInt IntKind.i64 r55 4)) fun (z60 : Int) =>
        optAll (ref04_Is.R z56 z57 z58 z59 z60 x0) fun (c61 : (Bool × Unit)) =>
        optAll (law04_num.R (c47).1) fun (c62 : (Int × Unit)) =>
        cond ((!(((c62).1 == (0 : Int)) == (c61).1))) (
          c = (false, ())) (
          cond (((0 : Int) != ((((((((c54).2).1).2).2).2).2).2).1)) (
            c = (false, ())) (
            cond ((!(false == (((((((((c54).2).1).2).2).2).2).2).2).1))) (
              c = (false, ())) (
              needs ((0 : Int) ≤ x9) (
              optAll ((x1)[(Int.toNat x9)]?) fun (r63 : List DV) =>
              optAll ((dInt IntKind.i64 r63 0)) fun (z64 : Int) =>
              optAll ((dInt IntKind.i64 r63 1)) fun (z65 : Int) =>
              optAll ((dInt IntKind.i64 r63 2)) fun (z66 : Int) =>
              optAll ((dInt IntKind.i64 r63 3)) fun (z67 : Int) =>
              optAll ((dInt IntKind.i64 r63 4)) fun (z68 : Int) =>
              optAll (cells_Check.R z64 z65 z66 z67 z68 x0) fun (c69 : (Int × Unit)) =>
              optAll (law04_num.R (c69).1) fun (c70 : (Int × Unit)) =>
              optAll (law04_num.R (c47).1) fun (c71 : (Int × Unit)) =>
              cond (((c70).1 != (c71).1)) (
                c = (false, ())) (
                cond ((c61).1) (
                  needs ((b8).length = (b8).length) (
                  needs (((((b8 ++ (([[(DV.v (Value.int IntKind.i64 (((c54).2).1).1)), (DV.v (Value.int IntKind.i64 ((((c54).2).1).2).1)), (DV.v (Value.int IntKind.i64 (((((c54).2).1).2).2).1)), (DV.v (Value.int IntKind.i64 ((((((c54).2).1).2).2).2).1)), (DV.v (Value.int IntKind.i64 (((((((c54).2).1).2).2).2).2).1)), (DV.v (Value.int IntKind.i64 ((((((((c54).2).1).2).2).2).2).2).1)), (DV.v (Value.bool (((((((((c54).2).1).2).2).2).2).2).2).1))]]).take (1)))).length * 56) ≤ 140737488355328) ∧ ((((b8 ++ (([[(DV.v (Value.int IntKind.i64 (((c54).2).1).1)), (DV.v (Value.int IntKind.i64 ((((c54).2).1).2).1)), (DV.v (Value.int IntKind.i64 (((((c54).2).1).2).2).1)), (DV.v (Value.int IntKind.i64 ((((((c54).2).1).2).2).2).1)), (DV.v (Value.int IntKind.i64 (((((((c54).2).1).2).2).2).2).1)), (DV.v (Value.int IntKind.i64 ((((((((c54).2).1).2).2).2).2).2).1)), (DV.v (Value.bool (((((((((c54).2).1).2).2).2).2).2).2).1))]]).take (1)))).length * 7) ≤ 140737488355328)) (
                  needs ((((((b518).take (b550))).length * 8) ≤ 140737488355328) ∧ (((((b518).take (b550))).length * 1) ≤ 140737488355328)) (
                  optAll (ref04_Values.R ((((b518).take (b550))).take ((((b518).take (b550))).length)) (c54).1) fun (c72 : (Bool × Unit)) =>
                  cond ((!(c72).1)) (
                    c = (false, ())) (
                    cond ((b550_1 != ((((b8 ++ (([[(DV.v (Value.int IntKind.i64 (((c54).2).1).1)), (DV.v (Value.int IntKind.i64 ((((c54).2).1).2).1)), (DV.v (Value.int IntKind.i64 (((((c54).2).1).2).2).1)), (DV.v (Value.int IntKind.i64 ((((((c54).2).1).2).2).2).1)), (DV.v (Value.int IntKind.i64 (((((((c54).2).1).2).2).2).2).1)), (DV.v (Value.int IntKind.i64 ((((((((c54).2).1).2).2).2).2).2).1)), (DV.v (Value.bool (((((((((c54).2).1).2).2).2).2).2).2).1))]]).take (1)))).length : Nat) : Int))) (
                      c = (false, ())) (
                      cond ((((b550 : Nat) : Int) != x0)) (
                        c = (false, ())) (
                        H12 x0 x1 (c54).1 (b8 ++ (([[(DV.v (Value.int IntKind.i64 (((c54).2).1).1)), (DV.v (Value.int IntKind.i64 ((((c54).2).1).2).1)), (DV.v (Value.int IntKind.i64 (((((c54).2).1).2).2).1)), (DV.v (Value.int IntKind.i64 ((((((c54).2).1).2).2).2).1)), (DV.v (Value.int IntKind.i64 (((((((c54).2).1).2).2).2).2).1)), (DV.v (Value.int IntKind.i64 ((((((((c54).2).1).2).2).2).2).2).1)), (DV.v (Value.bool (((((((((c54).2).1).2).2).2).2).2).2).1))]]).take (1))) (IntKind.i64.wrap (x9 + (1 : Int))) b550 b550_1 b551 b518 c))))))) (
                  needs ((((((b518).take (b550))).length * 8) ≤ 140737488355328) ∧ (((((b518).take (b550))).length * 1) ≤ 140737488355328)) (
                  optAll (ref04_Values.R ((((b518).take (b550))).take ((((b518).take (b550))).length)) (c54).1) fun (c73 : (Bool × Unit)) =>
                  cond ((!(c73).1)) (
                    c = (false, ())) (
                    cond ((b550_1 != (((b8).length : Nat) : Int))) (
                      c = (false, ())) (
                      cond ((((b550 : Nat) : Int) != x0)) (
                        c = (false, ())) (
                        H12 x0 x1 (c54).1 b8 (IntKind.i64.wrap (x9 + (1 : Int))) b550 b550_1 b551 b518 c))))))))))))) (
        needs (((0 : Int) ≤ z43) ∧ (z43 < ((b550 : Nat) : Int))) (
        optAll ((b518)[(0 + (Int.toNat z43))]?) fun (r74 : List DV) =>
        optAll ((dInt IntKind.i64 r74 0)) fun (z75 : Int) =>
        optAll (cells_step.R z75 z42 z43 z44 z45 z46) fun (c76 : (((Int × (Int × (Int × (Int × (Int × (Int × (Bool × Unit))))))) × Unit) × Int)) =>
        cond (decide (((((b551).length : Nat) : Int) < (2000 : Int)))) (
          needs ((b551).length = (b551).length) (
          needs (((((b551 ++ (([[(DV.v (Value.int IntKind.i64 (((c76).1).1).1)), (DV.v (Value.int IntKind.i64 ((((c76).1).1).2).1)), (DV.v (Value.int IntKind.i64 (((((c76).1).1).2).2).1)), (DV.v (Value.int IntKind.i64 ((((((c76).1).1).2).2).2).1)), (DV.v (Value.int IntKind.i64 (((((((c76).1).1).2).2).2).2).1)), (DV.v (Value.int IntKind.i64 ((((((((c76).1).1).2).2).2).2).2).1)), (DV.v (Value.bool (((((((((c76).1).1).2).2).2).2).2).2).1))]]).take (1)))).length * 56) ≤ 140737488355328) ∧ ((((b551 ++ (([[(DV.v (Value.int IntKind.i64 (((c76).1).1).1)), (DV.v (Value.int IntKind.i64 ((((c76).1).1).2).1)), (DV.v (Value.int IntKind.i64 (((((c76).1).1).2).2).1)), (DV.v (Value.int IntKind.i64 ((((((c76).1).1).2).2).2).1)), (DV.v (Value.int IntKind.i64 (((((((c76).1).1).2).2).2).2).1)), (DV.v (Value.int IntKind.i64 ((((((((c76).1).1).2).2).2).2).2).1)), (DV.v (Value.bool (((((((((c76).1).1).2).2).2).2).2).2).1))]]).take (1)))).length * 7) ≤ 140737488355328)) (
          needs ((0 : Int) ≤ x9) (
          optAll ((x1)[(Int.toNat x9)]?) fun (r77 : List DV) =>
          optAll ((dInt IntKind.i64 r77 0)) fun (z78 : Int) =>
          optAll ((dInt IntKind.i64 r77 1)) fun (z79 : Int) =>
          optAll ((dInt IntKind.i64 r77 2)) fun (z80 : Int) =>
          optAll ((dInt IntKind.i64 r77 3)) fun (z81 : Int) =>
          optAll ((dInt IntKind.i64 r77 4)) fun (z82 : Int) =>
          optAll (ref04_Apply.R x7 z78 z79 z80 z81 z82) fun (c83 : (List (List DV) × ((Int × (Int × (Int × (Int × (Int × (Int × (Bool × Unit))))))) × Unit))) =>
          needs ((0 : Int) ≤ x9) (
          optAll ((x1)[(Int.toNat x9)]?) fun (r84 : List DV) =>
          optAll ((dInt IntKind.i64 r84 0)) fun (z85 : Int) =>
          optAll ((dInt IntKind.i64 r84 1)) fun (z86 : Int) =>
          optAll ((dInt IntKind.i64 r84 2)) fun (z87 : Int) =>
          optAll ((dInt IntKind.i64 r84 3)) fun (z88 : Int) =>
          optAll ((dInt IntKind.i64 r84 4)) fun (z89 : Int) =>
          optAll (ref04_Is.R z85 z86 z87 z88 z89 x0) fun (c90 : (Bool × Unit)) =>
          optAll (law04_num.R (0 : Int)) fun (c91 : (Int × Unit)) =>
          cond ((!(((c91).1 == (0 : Int)) == (c90).1))) (
            c = (false, ())) (
            cond ((((((((((c76).1).1).2).2).2).2).2).1 != ((((((((c83).2).1).2).2).2).2).2).1)) (
              c = (false, ())) (
              cond ((!((((((((((c76).1).1).2).2).2).2).2).2).1 == (((((((((c83).2).1).2).2).2).2).2).2).1))) (
                c = (false, ())) (
                needs ((0 : Int) ≤ x9) (
                optAll ((x1)[(Int.toNat x9)]?) fun (r92 : List DV) =>
                optAll ((dInt IntKind.i64 r92 0)) fun (z93 : Int) =>
                optAll ((dInt IntKind.i64 r92 1)) fun (z94 : Int) =>
                optAll ((dInt IntKind.i64 r92 2)) fun (z95 : Int) =>
                optAll ((dInt IntKind.i64 r92 3)) fun (z96 : Int) =>
                optAll ((dInt IntKind.i64 r92 4)) fun (z97 : Int) =>
                optAll (cells_Check.R z93 z94 z95 z96 z97 x0) fun (c98 : (Int × Unit)) =>
                optAll (law04_num.R (c98).1) fun (c99 : (Int × Unit)) =>
                optAll (law04_num.R (0 : Int)) fun (c100 : (Int × Unit)) =>
                cond (((c99).1 != (c100).1)) (
                  c = (false, ())) (
                  cond ((c90).1) (
                    needs ((b8).length = (b8).length) (
                    needs (((((b8 ++ (([[(DV.v (Value.int IntKind.i64 (((c83).2).1).1)), (DV.v (Value.int IntKind.i64 ((((c83).2).1).2).1)), (DV.v (Value.int IntKind.i64 (((((c83).2).1).2).2).1)), (DV.v (Value.int IntKind.i64 ((((((c83).2).1).2).2).2).1)), (DV.v (Value.int IntKind.i64 (((((((c83).2).1).2).2).2).2).1)), (DV.v (Value.int IntKind.i64 ((((((((c83).2).1).2).2).2).2).2).1)), (DV.v (Value.bool (((((((((c83).2).1).2).2).2).2).2).2).1))]]).take (1)))).length * 56) ≤ 140737488355328) ∧ ((((b8 ++ (([[(DV.v (Value.int IntKind.i64 (((c83).2).1).1)), (DV.v (Value.int IntKind.i64 ((((c83).2).1).2).1)), (DV.v (Value.int IntKind.i64 (((((c83).2).1).2).2).1)), (DV.v (Value.int IntKind.i64 ((((((c83).2).1).2).2).2).1)), (DV.v (Value.int IntKind.i64 (((((((c83).2).1).2).2).2).2).1)), (DV.v (Value.int IntKind.i64 ((((((((c83).2).1).2).2).2).2).2).1)), (DV.v (Value.bool (((((((((c83).2).1).2).2).2).2).2).2).1))]]).take (1)))).length * 7) ≤ 140737488355328)) (
                    needs ((((((((b518).set ((0 + (Int.toNat z43))) (putD r74 0 [(DV.v (Value.int IntKind.i64 (c76).2))]))).take (b550))).length * 8) ≤ 140737488355328) ∧ (((((((b518).set ((0 + (Int.toNat z43))) (putD r74 0 [(DV.v (Value.int IntKind.i64 (c76).2))]))).take (b550))).length * 1) ≤ 140737488355328)) (
                    optAll (ref04_Values.R ((((((b518).set ((0 + (Int.toNat z43))) (putD r74 0 [(DV.v (Value.int IntKind.i64 (c76).2))]))).take (b550))).take ((((((b518).set ((0 + (Int.toNat z43))) (putD r74 0 [(DV.v (Value.int IntKind.i64 (c76).2))]))).take (b550))).length)) (c83).1) fun (c101 : (Bool × Unit)) =>
                    cond ((!(c101).1)) (
                      c = (false, ())) (
                      cond (((IntKind.i64.wrap (b550_1 + (1 : Int))) != ((((b8 ++ (([[(DV.v (Value.int IntKind.i64 (((c83).2).1).1)), (DV.v (Value.int IntKind.i64 ((((c83).2).1).2).1)), (DV.v (Value.int IntKind.i64 (((((c83).2).1).2).2).1)), (DV.v (Value.int IntKind.i64 ((((((c83).2).1).2).2).2).1)), (DV.v (Value.int IntKind.i64 (((((((c83).2).1).2).2).2).2).1)), (DV.v (Value.int IntKind.i64 ((((((((c83).2).1).2).2).2).2).2).1)), (DV.v (Value.bool (((((((((c83).2).1).2).2).2).2).2).2).1))]]).take (1)))).length : Nat) : Int))) (
                        c = (false, ())) (
                        cond ((((b550 : Nat) : Int) != x0)) (
                          c = (false, ())) (
                          H12 x0 x1 (c83).1 (b8 ++ (([[(DV.v (Value.int IntKind.i64 (((c83).2).1).1)), (DV.v (Value.int IntKind.i64 ((((c83).2).1).2).1)), (DV.v (Value.int IntKind.i64 (((((c83).2).1).2).2).1)), (DV.v (Value.int IntKind.i64 ((((((c83).2).1).2).2).2).1)), (DV.v (Value.int IntKind.i64 (((((((c83).2).1).2).2).2).2).1)), (DV.v (Value.int IntKind.i64 ((((((((c83).2).1).2).2).2).2).2).1)), (DV.v (Value.bool (((((((((c83).2).1).2).2).2).2).2).2).1))]]).take (1))) (IntKind.i64.wrap (x9 + (1 : Int))) b550 (IntKind.i64.wrap (b550_1 + (1 : Int))) (b551 ++ (([[(DV.v (Value.int IntKind.i64 (((c76).1).1).1)), (DV.v (Value.int IntKind.i64 ((((c76).1).1).2).1)), (DV.v (Value.int IntKind.i64 (((((c76).1).1).2).2).1)), (DV.v (Value.int IntKind.i64 ((((((c76).1).1).2).2).2).1)), (DV.v (Value.int IntKind.i64 (((((((c76).1).1).2).2).2).2).1)), (DV.v (Value.int IntKind.i64 ((((((((c76).1).1).2).2).2).2).2).1)), (DV.v (Value.bool (((((((((c76).1).1).2).2).2).2).2).2).1))]]).take (1))) ((b518).set ((0 + (Int.toNat z43))) (putD r74 0 [(DV.v (Value.int IntKind.i64 (c76).2))])) c))))))) (
                    needs ((((((((b518).set ((0 + (Int.toNat z43))) (putD r74 0 [(DV.v (Value.int IntKind.i64 (c76).2))]))).take (b550))).length * 8) ≤ 140737488355328) ∧ (((((((b518).set ((0 + (Int.toNat z43))) (putD r74 0 [(DV.v (Value.int IntKind.i64 (c76).2))]))).take (b550))).length * 1) ≤ 140737488355328)) (
                    optAll (ref04_Values.R ((((((b518).set ((0 + (Int.toNat z43))) (putD r74 0 [(DV.v (Value.int IntKind.i64 (c76).2))]))).take (b550))).take ((((((b518).set ((0 + (Int.toNat z43))) (putD r74 0 [(DV.v (Value.int IntKind.i64 (c76).2))]))).take (b550))).length)) (c83).1) fun (c102 : (Bool × Unit)) =>
                    cond ((!(c102).1)) (
                      c = (false, ())) (
                      cond (((IntKind.i64.wrap (b550_1 + (1 : Int))) != (((b8).length : Nat) : Int))) (
                        c = (false, ())) (
                        cond ((((b550 : Nat) : Int) != x0)) (
                          c = (false, ())) (
                          H12 x0 x1 (c83).1 b8 (IntKind.i64.wrap (x9 + (1 : Int))) b550 (IntKind.i64.wrap (b550_1 + (1 : Int))) (b551 ++ (([[(DV.v (Value.int IntKind.i64 (((c76).1).1).1)), (DV.v (Value.int IntKind.i64 ((((c76).1).1).2).1)), (DV.v (Value.int IntKind.i64 (((((c76).1).1).2).2).1)), (DV.v (Value.int IntKind.i64 ((((((c76).1).1).2).2).2).1)), (DV.v (Value.int IntKind.i64 (((((((c76).1).1).2).2).2).2).1)), (DV.v (Value.int IntKind.i64 ((((((((c76).1).1).2).2).2).2).2).1)), (DV.v (Value.bool (((((((((c76).1).1).2).2).2).2).2).2).1))]]).take (1))) ((b518).set ((0 + (Int.toNat z43))) (putD r74 0 [(DV.v (Value.int IntKind.i64 (c76).2))])) c))))))))))))))) (
          needs ((0 : Int) ≤ x9) (
          optAll ((x1)[(Int.toNat x9)]?) fun (r103 : List DV) =>
          optAll ((dInt IntKind.i64 r103 0)) fun (z104 : Int) =>
          optAll ((dInt IntKind.i64 r103 1)) fun (z105 : Int) =>
          optAll ((dInt IntKind.i64 r103 2)) fun (z106 : Int) =>
          optAll ((dInt IntKind.i64 r103 3)) fun (z107 : Int) =>
          optAll ((dInt IntKind.i64 r103 4)) fun (z108 : Int) =>
          optAll (ref04_Apply.R x7 z104 z105 z106 z107 z108) fun (c109 : (List (List DV) × ((Int × (Int × (Int × (Int × (Int × (Int × (Bool × Unit))))))) × Unit))) =>
          needs ((0 : Int) ≤ x9) (
          optAll ((x1)[(Int.toNat x9)]?) fun (r110 : List DV) =>
          optAll ((dInt IntKind.i64 r110 0)) fun (z111 : Int) =>
          optAll ((dInt IntKind.i64 r110 1)) fun (z112 : Int) =>
          optAll ((dInt IntKind.i64 r110 2)) fun (z113 : Int) =>
          optAll ((dInt IntKind.i64 r110 3)) fun (z114 : Int) =>
          optAll ((dInt IntKind.i64 r110 4)) fun (z115 : Int) =>
          optAll (ref04_Is.R z111 z112 z113 z114 z115 x0) fun (c116 : (Bool × Unit)) =>
          optAll (law04_num.R (0 : Int)) fun (c117 : (Int × Unit)) =>
          cond ((!(((c117).1 == (0 : Int)) == (c116).1))) (
            c = (false, ())) (
            cond ((((((((((c76).1).1).2).2).2).2).2).1 != ((((((((c109).2).1).2).2).2).2).2).1)) (
              c = (false, ())) (
              cond ((!((((((((((c76).1).1).2).2).2).2).2).2).1 == (((((((((c109).2).1).2).2).2).2).2).2).1))) (
                c = (false, ())) (
                needs ((0 : Int) ≤ x9) (
                optAll ((x1)[(Int.toNat x9)]?) fun (r118 : List DV) =>
                optAll ((dInt IntKind.i64 r118 0)) fun (z119 : Int) =>
                optAll ((dInt IntKind.i64 r118 1)) fun (z120 : Int) =>
                optAll ((dInt IntKind.i64 r118 2)) fun (z121 : Int) =>
                optAll ((dInt IntKind.i64 r118 3)) fun (z122 : Int) =>
                optAll ((dInt IntKind.i64 r118 4)) fun (z123 : Int) =>
                optAll (cells_Check.R z119 z120 z121 z122 z123 x0) fun (c124 : (Int × Unit)) =>
                optAll (law04_num.R (c124).1) fun (c125 : (Int × Unit)) =>
                optAll (law04_num.R (0 : Int)) fun (c126 : (Int × Unit)) =>
                cond (((c125).1 != (c126).1)) (
                  c = (false, ())) (
                  cond ((c116).1) (
                    needs ((b8).length = (b8).length) (
                    needs (((((b8 ++ (([[(DV.v (Value.int IntKind.i64 (((c109).2).1).1)), (DV.v (Value.int IntKind.i64 ((((c109).2).1).2).1)), (DV.v (Value.int IntKind.i64 (((((c109).2).1).2).2).1)), (DV.v (Value.int IntKind.i64 ((((((c109).2).1).2).2).2).1)), (DV.v (Value.int IntKind.i64 (((((((c109).2).1).2).2).2).2).1)), (DV.v (Value.int IntKind.i64 ((((((((c109).2).1).2).2).2).2).2).1)), (DV.v (Value.bool (((((((((c109).2).1).2).2).2).2).2).2).1))]]).take (1)))).length * 56) ≤ 140737488355328) ∧ ((((b8 ++ (([[(DV.v (Value.int IntKind.i64 (((c109).2).1).1)), (DV.v (Value.int IntKind.i64 ((((c109).2).1).2).1)), (DV.v (Value.int IntKind.i64 (((((c109).2).1).2).2).1)), (DV.v (Value.int IntKind.i64 ((((((c109).2).1).2).2).2).1)), (DV.v (Value.int IntKind.i64 (((((((c109).2).1).2).2).2).2).1)), (DV.v (Value.int IntKind.i64 ((((((((c109).2).1).2).2).2).2).2).1)), (DV.v (Value.bool (((((((((c109).2).1).2).2).2).2).2).2).1))]]).take (1)))).length * 7) ≤ 140737488355328)) (
                    needs ((((((((b518).set ((0 + (Int.toNat z43))) (putD r74 0 [(DV.v (Value.int IntKind.i64 (c76).2))]))).take (b550))).length * 8) ≤ 140737488355328) ∧ (((((((b518).set ((0 + (Int.toNat z43))) (putD r74 0 [(DV.v (Value.int IntKind.i64 (c76).2))]))).take (b550))).length * 1) ≤ 140737488355328)) (
                    optAll (ref04_Values.R ((((((b518).set ((0 + (Int.toNat z43))) (putD r74 0 [(DV.v (Value.int IntKind.i64 (c76).2))]))).take (b550))).take ((((((b518).set ((0 + (Int.toNat z43))) (putD r74 0 [(DV.v (Value.int IntKind.i64 (c76).2))]))).take (b550))).length)) (c109).1) fun (c127 : (Bool × Unit)) =>
                    cond ((!(c127).1)) (
                      c = (false, ())) (
                      cond (((IntKind.i64.wrap (b550_1 + (1 : Int))) != ((((b8 ++ (([[(DV.v (Value.int IntKind.i64 (((c109).2).1).1)), (DV.v (Value.int IntKind.i64 ((((c109).2).1).2).1)), (DV.v (Value.int IntKind.i64 (((((c109).2).1).2).2).1)), (DV.v (Value.int IntKind.i64 ((((((c109).2).1).2).2).2).1)), (DV.v (Value.int IntKind.i64 (((((((c109).2).1).2).2).2).2).1)), (DV.v (Value.int IntKind.i64 ((((((((c109).2).1).2).2).2).2).2).1)), (DV.v (Value.bool (((((((((c109).2).1).2).2).2).2).2).2).1))]]).take (1)))).length : Nat) : Int))) (
                        c = (false, ())) (
                        cond ((((b550 : Nat) : Int) != x0)) (
                          c = (false, ())) (
                          H12 x0 x1 (c109).1 (b8 ++ (([[(DV.v (Value.int IntKind.i64 (((c109).2).1).1)), (DV.v (Value.int IntKind.i64 ((((c109).2).1).2).1)), (DV.v (Value.int IntKind.i64 (((((c109).2).1).2).2).1)), (DV.v (Value.int IntKind.i64 ((((((c109).2).1).2).2).2).1)), (DV.v (Value.int IntKind.i64 (((((((c109).2).1).2).2).2).2).1)), (DV.v (Value.int IntKind.i64 ((((((((c109).2).1).2).2).2).2).2).1)), (DV.v (Value.bool (((((((((c109).2).1).2).2).2).2).2).2).1))]]).take (1))) (IntKind.i64.wrap (x9 + (1 : Int))) b550 (IntKind.i64.wrap (b550_1 + (1 : Int))) b551 ((b518).set ((0 + (Int.toNat z43))) (putD r74 0 [(DV.v (Value.int IntKind.i64 (c76).2))])) c))))))) (
                    needs ((((((((b518).set ((0 + (Int.toNat z43))) (putD r74 0 [(DV.v (Value.int IntKind.i64 (c76).2))]))).take (b550))).length * 8) ≤ 140737488355328) ∧ (((((((b518).set ((0 + (Int.toNat z43))) (putD r74 0 [(DV.v (Value.int IntKind.i64 (c76).2))]))).take (b550))).length * 1) ≤ 140737488355328)) (
                    optAll (ref04_Values.R ((((((b518).set ((0 + (Int.toNat z43))) (putD r74 0 [(DV.v (Value.int IntKind.i64 (c76).2))]))).take (b550))).take ((((((b518).set ((0 + (Int.toNat z43))) (putD r74 0 [(DV.v (Value.int IntKind.i64 (c76).2))]))).take (b550))).length)) (c109).1) fun (c128 : (Bool × Unit)) =>
                    cond ((!(c128).1)) (
                      c = (false, ())) (
                      cond (((IntKind.i64.wrap (b550_1 + (1 : Int))) != (((b8).length : Nat) : Int))) (
                        c = (false, ())) (
                        cond ((((b550 : Nat) : Int) != x0)) (
                          c = (false, ())) (
                          H12 x0 x1 (c109).1 b8 (IntKind.i64.wrap (x9 + (1 : Int))) b550 (IntKind.i64.wrap (b550_1 + (1 : Int))) b551 ((b518).set ((0 + (Int.toNat z43))) (putD r74 0 [(DV.v (Value.int IntKind.i64 (c76).2))])) c))))))))))))))))) (
      needs ((((((b551).take ((b551).length))).length * 56) ≤ 140737488355328) ∧ (((((b551).take ((b551).length))).length * 7) ≤ 140737488355328)) (
      optAll (ref04_Recs.R ((((b551).take ((b551).length))).take ((((b551).take ((b551).length))).length)) ((b8).take ((b8).length))) fun (c129 : (Bool × Unit)) =>
      cond ((c129).1) (
        optAll (law04_live.R) fun (c130 : (Bool × Unit)) =>
        c = ((c130).1, ())) (
        c = (false, ()))))) : H12 x0 x1 x7 b8 x9 b550 b550_1 b551 b518 c := head_rule (n := 400) (noSum_ok _) (by kernel_rfl) h
end law04_CellsRuns
/-! garrison/garrisonlaw04.CellsMany -/
namespace law04_CellsMany
def lv : Live := [((9, 1048576), [0, 3, 5, 7], [101, 419, 387, 420]), ((21, 2097152), [12, 13], [1049706])]
abbrev H9 (x0 : Int) (x7 : Int) (b101 : Int) (b101_1 : Int) (b101_2 : Int) (b101_3 : Int) (b101_4 : Int) (b419 : Nat) (b419_1 : Int) (b420 : List (List DV)) (b387 : List (List DV)) (c : (Bool × Unit)) : Prop := HeadAns cfg 9 sh lv (bd cfg 9 [1, 1, 1, 1, 1, 0, 1, 0, 0]) 1048576 [.inBlock 0, .code (bd cfg 9 [1, 1, 1, 1, 1, 1])]
  [(AV.d (DV.v (Value.int IntKind.i64 x0))), (AV.ptr 101 0 0 0), (AV.ptr 419 0 0 0), (AV.d (DV.v (Value.int IntKind.i64 x7)))] [(Option.some (VBlk.cell 5 0 [(AV.d (DV.v (Value.int IntKind.i64 b101))), (AV.d (DV.v (Value.int IntKind.i64 b101_1))), (AV.d (DV.v (Value.int IntKind.i64 b101_2))), (AV.d (DV.v (Value.int IntKind.i64 b101_3))), (AV.d (DV.v (Value.int IntKind.i64 b101_4)))])), (Option.some (VBlk.cell 3 0 [(AV.ref 387 0 0 b419), (AV.d (DV.v (Value.int IntKind.i64 b419_1))), (AV.ref 420 0 0 (List.length b420))])), (Option.some (VBlk.drow 1 0 b387)), (Option.some (VBlk.drow 7 0 b420))] 1048576 c
abbrev H21 (b1049706 : List (List DV)) (x13 : Int) (c : (Bool × Unit)) : Prop := HeadAns cfg 9 sh lv (bd cfg 9 [1, 1, 1, 1, 1, 1, 1, 1, 1, 1, 1, 0, 1, 0, 0]) 2097152 [.inBlock 2, .code (bd cfg 9 [1, 1, 1, 1, 1, 1, 1, 1, 1, 1, 1, 1])]
  [(AV.ref 1049706 0 0 (List.length b1049706)), (AV.d (DV.v (Value.int IntKind.i64 x13)))] [(Option.some (VBlk.drow 7 0 b1049706))] 2097152 c
theorem start (a0 : Int) (a1_0 : Int) (a1_1 : Int) (a1_2 : Int) (a1_3 : Int) (a1_4 : Int) (c : (Bool × Unit)) (h :
    cond (decide ((a0 < (0 : Int)))) (
      optAll (law04_live.R) fun (c0 : (Bool × Unit)) =>
      c = ((c0).1, ())) (
      cond (decide ((a0 > (2500 : Int)))) (
        optAll (law04_live.R) fun (c1 : (Bool × Unit)) =>
        c = ((c1).1, ())) (
        optAll (law04_num.R (0 : Int)) fun (c2 : (Int × Unit)) =>
        cond (((c2).1 != (0 : Int))) (
          c = (false, ())) (
          H9 a0 (0 : Int) (2 : Int) (1 : Int) a1_2 a1_3 a1_4 3 (0 : Int) [] (List.replicate (3) [(DV.v (Value.int IntKind.i64 (0 : Int)))]) c)))) : R a0 a1_0 a1_1 a1_2 a1_3 a1_4 = some c := start_rule (n := 400) (lv := lv) (noSum_ok _) (by kernel_rfl) h
theorem H9_step (x0 : Int) (x7 : Int) (b101 : Int) (b101_1 : Int) (b101_2 : Int) (b101_3 : Int) (b101_4 : Int) (b419 : Nat) (b419_1 : Int) (b420 : List (List DV)) (b387 : List (List DV)) (c : (Bool × Unit)) (h :
    cond (decide ((x7 < x0))) (
      optAll (cells_Check.R b101 b101_1 b101_2 x7 b101_4 ((b419 : Nat) : Int)) fun (c3 : (Int × Unit)) =>
      cond (((c3).1 != (0 : Int))) (
        H9 x0 (IntKind.i64.wrap (x7 + (1 : Int))) b101 b101_1 b101_2 x7 b101_4 b419 b419_1 b420 b387 c) (
        needs (((0 : Int) ≤ b101_1) ∧ (b101_1 < ((b419 : Nat) : Int))) (
        optAll ((b387)[(0 + (Int.toNat b101_1))]?) fun (r4 : List DV) =>
        optAll ((dInt IntKind.i64 r4 0)) fun (z5 : Int) =>
        optAll (cells_step.R z5 b101 b101_1 b101_2 x7 b101_4) fun (c6 : (((Int × (Int × (Int × (Int × (Int × (Int × (Bool × Unit))))))) × Unit) × Int)) =>
        cond (decide (((((b420).length : Nat) : Int) < (2000 : Int)))) (
          needs ((b420).length = (b420).length) (
          needs (((((b420 ++ (([[(DV.v (Value.int IntKind.i64 (((c6).1).1).1)), (DV.v (Value.int IntKind.i64 ((((c6).1).1).2).1)), (DV.v (Value.int IntKind.i64 (((((c6).1).1).2).2).1)), (DV.v (Value.int IntKind.i64 ((((((c6).1).1).2).2).2).1)), (DV.v (Value.int IntKind.i64 (((((((c6).1).1).2).2).2).2).1)), (DV.v (Value.int IntKind.i64 ((((((((c6).1).1).2).2).2).2).2).1)), (DV.v (Value.bool (((((((((c6).1).1).2).2).2).2).2).2).1))]]).take (1)))).length * 56) ≤ 140737488355328) ∧ ((((b420 ++ (([[(DV.v (Value.int IntKind.i64 (((c6).1).1).1)), (DV.v (Value.int IntKind.i64 ((((c6).1).1).2).1)), (DV.v (Value.int IntKind.i64 (((((c6).1).1).2).2).1)), (DV.v (Value.int IntKind.i64 ((((((c6).1).1).2).2).2).1)), (DV.v (Value.int IntKind.i64 (((((((c6).1).1).2).2).2).2).1)), (DV.v (Value.int IntKind.i64 ((((((((c6).1).1).2).2).2).2).2).1)), (DV.v (Value.bool (((((((((c6).1).1).2).2).2).2).2).2).1))]]).take (1)))).length * 7) ≤ 140737488355328)) (
          H9 x0 (IntKind.i64.wrap (x7 + (1 : Int))) b101 b101_1 b101_2 x7 b101_4 b419 (IntKind.i64.wrap (b419_1 + (1 : Int))) (b420 ++ (([[(DV.v (Value.int IntKind.i64 (((c6).1).1).1)), (DV.v (Value.int IntKind.i64 ((((c6).1).1).2).1)), (DV.v (Value.int IntKind.i64 (((((c6).1).1).2).2).1)), (DV.v (Value.int IntKind.i64 ((((((c6).1).1).2).2).2).1)), (DV.v (Value.int IntKind.i64 (((((((c6).1).1).2).2).2).2).1)), (DV.v (Value.int IntKind.i64 ((((((((c6).1).1).2).2).2).2).2).1)), (DV.v (Value.bool (((((((((c6).1).1).2).2).2).2).2).2).1))]]).take (1))) ((b387).set ((0 + (Int.toNat b101_1))) (putD r4 0 [(DV.v (Value.int IntKind.i64 (c6).2))])) c))) (
          H9 x0 (IntKind.i64.wrap (x7 + (1 : Int))) b101 b101_1 b101_2 x7 b101_4 b419 (IntKind.i64.wrap (b419_1 + (1 : Int))) b420 ((b387).set ((0 + (Int.toNat b101_1))) (putD r4 0 [(DV.v (Value.int IntKind.i64 (c6).2))])) c)))) (
      optAll (law04_num.R (7 : Int)) fun (c7 : (Int × Unit)) =>
      cond (((c7).1 != (7 : Int))) (
        c = (false, ())) (
        needs ((((((b420).take ((b420).length))).length * 56) ≤ 140737488355328) ∧ (((((b420).take ((b420).length))).length * 7) ≤ 140737488355328)) (
        cond ((b419_1 != x0)) (
          c = (false, ())) (
          cond (((((((b420).take ((b420).length))).length : Nat) : Int) != (if ((2000 : Int) < x0) then (2000 : Int) else x0))) (
            c = (false, ())) (
            H21 ((b420).take ((b420).length)) (0 : Int) c)))))) : H9 x0 x7 b101 b101_1 b101_2 b101_3 b101_4 b419 b419_1 b420 b387 c := head_rule (n := 400) (noSum_ok _) (by kernel_rfl) h
theorem H21_step (b1049706 : List (List DV)) (x13 : Int) (c : (Bool × Unit)) (h :
    cond (decide ((x13 < (((b1049706).length : Nat) : Int)))) (
      needs (((0 : Int) ≤ x13) ∧ (x13 < (((b1049706).length : Nat) : Int))) (
      optAll ((b1049706)[(0 + (Int.toNat x13))]?) fun (r8 : List DV) =>
      optAll ((dInt IntKind.i64 r8 3)) fun (z9 : Int) =>
      cond ((z9 != x13)) (
        c = (false, ())) (
        H21 b1049706 (IntKind.i64.wrap (x13 + (1 : Int))) c))) (
      optAll (law04_live.R) fun (c10 : (Bool × Unit)) =>
      c = ((c10).1, ()))) : H21 b1049706 x13 c := head_rule (n := 400) (noSum_ok _) (by kernel_rfl) h
end law04_CellsMany
/-! garrison/garrisonlaw04.CellsLaid -/
namespace law04_CellsLaid
def lv : Live := [((18, 1048576), [2, 3, 9, 14, 15], [598, 566, 599])]
abbrev H18 (x2 : List (List DV)) (x3 : Int) (x14 : List (List DV)) (x15 : Int) (b598 : Nat) (b598_1 : Int) (b599 : List (List DV)) (b566 : List (List DV)) (c : (Bool × Unit)) : Prop := HeadAns cfg 10 sh lv (bd cfg 10 [1, 1, 1, 1, 1, 1, 1, 1, 1, 1, 1, 0, 1, 0, 0]) 1048576 [.inBlock 0, .code (bd cfg 10 [1, 1, 1, 1, 1, 1, 1, 1, 1, 1, 1, 1])]
  [(AV.d (DV.lst 5 x2)), (AV.d (DV.v (Value.int IntKind.i64 x3))), (AV.ptr 598 0 0 0), (AV.d (DV.lst 1 x14)), (AV.d (DV.v (Value.int IntKind.i64 x15)))] [(Option.some (VBlk.cell 3 0 [(AV.ref 566 0 0 b598), (AV.d (DV.v (Value.int IntKind.i64 b598_1))), (AV.ref 599 0 0 (List.length b599))])), (Option.some (VBlk.drow 1 0 b566)), (Option.some (VBlk.drow 7 0 b599))] 1048576 c
theorem start (a0 : List (List DV)) (a1 : List (List DV)) (a2 : List (List DV)) (a3 : Int) (c : (Bool × Unit)) (h :
    cond (decide (((((a0).length : Nat) : Int) > (100 : Int)))) (
      optAll (law04_live.R) fun (c0 : (Bool × Unit)) =>
      c = ((c0).1, ())) (
      cond (decide (((((a1).length : Nat) : Int) > (100 : Int)))) (
        optAll (law04_live.R) fun (c1 : (Bool × Unit)) =>
        c = ((c1).1, ())) (
        optAll (law04_small.R a2) fun (c2 : (Bool × Unit)) =>
        cond ((!(c2).1)) (
          optAll (law04_live.R) fun (c3 : (Bool × Unit)) =>
          c = ((c3).1, ())) (
          cond (decide (((((a0).length : Nat) : Int) > (4096 : Int)))) (
            optAll (law04_num.R (2 : Int)) fun (c4 : (Int × Unit)) =>
            cond (((c4).1 != (0 : Int))) (
              c = (false, ())) (
              c = (false, ()))) (
            needs (((((a0).length : Nat) : Int) = (((a0).length : Nat) : Int)) ∧ (((0 : Int) ≤ (((a0).length : Nat) : Int)) ∧ ((((((a0).length : Nat) : Int) * (8 : Int)) ≤ (140737488355328 : Int)) ∧ (((((a0).length : Nat) : Int) * (1 : Int)) ≤ (140737488355328 : Int))))) (
            optAll (law04_num.R (0 : Int)) fun (c5 : (Int × Unit)) =>
            cond (((c5).1 != (0 : Int))) (
              c = (false, ())) (
              needs ((((a0).length * 8) ≤ 140737488355328) ∧ (((a0).length * 1) ≤ 140737488355328)) (
              cond (((((a0).length : Nat) : Int) != (((Int.toNat (((a0).length : Nat) : Int)) : Nat) : Int))) (
                cond (((((a1).length : Nat) : Int) != (((Int.toNat (((a0).length : Nat) : Int)) : Nat) : Int))) (
                  optAll (law04_num.R (2 : Int)) fun (c6 : (Int × Unit)) =>
                  cond (((c6).1 != (0 : Int))) (
                    c = (false, ())) (
                    optAll (law04_num.R (2 : Int)) fun (c7 : (Int × Unit)) =>
                    cond ((!(((c7).1 == (0 : Int)) == ((((a1).length : Nat) : Int) == (((a0).length : Nat) : Int))))) (
                      c = (false, ())) (
                      optAll (law04_num.R (7 : Int)) fun (c8 : (Int × Unit)) =>
                      cond (((c8).1 != (7 : Int))) (
                        c = (false, ())) (
                        cond (((((a1).length : Nat) : Int) == (((a0).length : Nat) : Int))) (
                          needs (((((((List.replicate ((Int.toNat (((a0).length : Nat) : Int))) [(DV.v (Value.int IntKind.i64 (0 : Int)))])).take ((Int.toNat (((a0).length : Nat) : Int))))).length * 8) ≤ 140737488355328) ∧ ((((((List.replicate ((Int.toNat (((a0).length : Nat) : Int))) [(DV.v (Value.int IntKind.i64 (0 : Int)))])).take ((Int.toNat (((a0).length : Nat) : Int))))).length * 1) ≤ 140737488355328)) (
                          optAll (ref04_Values.R (((((List.replicate ((Int.toNat (((a0).length : Nat) : Int))) [(DV.v (Value.int IntKind.i64 (0 : Int)))])).take ((Int.toNat (((a0).length : Nat) : Int))))).take (((((List.replicate ((Int.toNat (((a0).length : Nat) : Int))) [(DV.v (Value.int IntKind.i64 (0 : Int)))])).take ((Int.toNat (((a0).length : Nat) : Int))))).length)) a1) fun (c9 : (Bool × Unit)) =>
                          cond ((!(c9).1)) (
                            c = (false, ())) (
                            H18 a2 a3 a1 (0 : Int) (Int.toNat (((a0).length : Nat) : Int)) (0 : Int) [] (List.replicate ((Int.toNat (((a0).length : Nat) : Int))) [(DV.v (Value.int IntKind.i64 (0 : Int)))]) c))) (
                          needs (((((((List.replicate ((Int.toNat (((a0).length : Nat) : Int))) [(DV.v (Value.int IntKind.i64 (0 : Int)))])).take ((Int.toNat (((a0).length : Nat) : Int))))).length * 8) ≤ 140737488355328) ∧ ((((((List.replicate ((Int.toNat (((a0).length : Nat) : Int))) [(DV.v (Value.int IntKind.i64 (0 : Int)))])).take ((Int.toNat (((a0).length : Nat) : Int))))).length * 1) ≤ 140737488355328)) (
                          optAll (ref04_Values.R (((((List.replicate ((Int.toNat (((a0).length : Nat) : Int))) [(DV.v (Value.int IntKind.i64 (0 : Int)))])).take ((Int.toNat (((a0).length : Nat) : Int))))).take (((((List.replicate ((Int.toNat (((a0).length : Nat) : Int))) [(DV.v (Value.int IntKind.i64 (0 : Int)))])).take ((Int.toNat (((a0).length : Nat) : Int))))).length)) a0) fun (c10 : (Bool × Unit)) =>
                          cond ((!(c10).1)) (
                            c = (false, ())) (
                            H18 a2 a3 a0 (0 : Int) (Int.toNat (((a0).length : Nat) : Int)) (0 : Int) [] (List.replicate ((Int.toNat (((a0).length : Nat) : Int))) [(DV.v (Value.int IntKind.i64 (0 : Int)))]) c))))))) (
                  optAll (law04_num.R (2 : Int)) fun (c11 : (Int × Unit)) =>
                  cond (((c11).1 != (0 : Int))) (
                    c = (false, ())) (
                    optAll (law04_num.R (0 : Int)) fun (c12 : (Int × Unit)) =>
                    cond ((!(((c12).1 == (0 : Int)) == ((((a1).length : Nat) : Int) == (((a0).length : Nat) : Int))))) (
                      c = (false, ())) (
                      optAll (law04_num.R (7 : Int)) fun (c13 : (Int × Unit)) =>
                      cond (((c13).1 != (7 : Int))) (
                        c = (false, ())) (
                        cond (((((a1).length : Nat) : Int) == (((a0).length : Nat) : Int))) (
                          needs (((((((overD (List.replicate ((Int.toNat (((a0).length : Nat) : Int))) [(DV.v (Value.int IntKind.i64 (0 : Int)))]) 0 ((a1).take ((Int.toNat (((a0).length : Nat) : Int)))))).take ((Int.toNat (((a0).length : Nat) : Int))))).length * 8) ≤ 140737488355328) ∧ ((((((overD (List.replicate ((Int.toNat (((a0).length : Nat) : Int))) [(DV.v (Value.int IntKind.i64 (0 : Int)))]) 0 ((a1).take ((Int.toNat (((a0).length : Nat) : Int)))))).take ((Int.toNat (((a0).length : Nat) : Int))))).length * 1) ≤ 140737488355328)) (
                          optAll (ref04_Values.R (((((overD (List.replicate ((Int.toNat (((a0).length : Nat) : Int))) [(DV.v (Value.int IntKind.i64 (0 : Int)))]) 0 ((a1).take ((Int.toNat (((a0).length : Nat) : Int)))))).take ((Int.toNat (((a0).length : Nat) : Int))))).take (((((overD (List.replicate ((Int.toNat (((a0).length : Nat) : Int))) [(DV.v (Value.int IntKind.i64 (0 : Int)))]) 0 ((a1).take ((Int.toNat (((a0).length : Nat) : Int)))))).take ((Int.toNat (((a0).length : Nat) : Int))))).length)) a1) fun (c14 : (Bool × Unit)) =>
                          cond ((!(c14).1)) (
                            c = (false, ())) (
                            H18 a2 a3 a1 (0 : Int) (Int.toNat (((a0).length : Nat) : Int)) (0 : Int) [] (overD (List.replicate ((Int.toNat (((a0).length : Nat) : Int))) [(DV.v (Value.int IntKind.i64 (0 : Int)))]) 0 ((a1).take ((Int.toNat (((a0).length : Nat) : Int))))) c))) (
                          needs (((((((overD (List.replicate ((Int.toNat (((a0).length : Nat) : Int))) [(DV.v (Value.int IntKind.i64 (0 : Int)))]) 0 ((a1).take ((Int.toNat (((a0).length : Nat) : Int)))))).take ((Int.toNat (((a0).length : Nat) : Int))))).length * 8) ≤ 140737488355328) ∧ ((((((overD (List.replicate ((Int.toNat (((a0).length : Nat) : Int))) [(DV.v (Value.int IntKind.i64 (0 : Int)))]) 0 ((a1).take ((Int.toNat (((a0).length : Nat) : Int)))))).take ((Int.toNat (((a0).length : Nat) : Int))))).length * 1) ≤ 140737488355328)) (
                          optAll (ref04_Values.R (((((overD (List.replicate ((Int.toNat (((a0).length : Nat) : Int))) [(DV.v (Value.int IntKind.i64 (0 : Int)))]) 0 ((a1).take ((Int.toNat (((a0).length : Nat) : Int)))))).take ((Int.toNat (((a0).length : Nat) : Int))))).take (((((overD (List.replicate ((Int.toNat (((a0).length : Nat) : Int))) [(DV.v (Value.int IntKind.i64 (0 : Int)))]) 0 ((a1).take ((Int.toNat (((a0).length : Nat) : Int)))))).take ((Int.toNat (((a0).length : Nat) : Int))))).length)) a0) fun (c15 : (Bool × Unit)) =>
                          cond ((!(c15).1)) (
                            c = (false, ())) (
                            H18 a2 a3 a0 (0 : Int) (Int.toNat (((a0).length : Nat) : Int)) (0 : Int) [] (overD (List.replicate ((Int.toNat (((a0).length : Nat) : Int))) [(DV.v (Value.int IntKind.i64 (0 : Int)))]) 0 ((a1).take ((Int.toNat (((a0).length : Nat) : Int))))) c)))))))) (
                cond (((((a1).length : Nat) : Int) != (((Int.toNat (((a0).length : Nat) : Int)) : Nat) : Int))) (
                  optAll (law04_num.R (0 : Int)) fun (c16 : (Int × Unit)) =>
                  cond (((c16).1 != (0 : Int))) (
                    c = (false, ())) (
                    optAll (law04_num.R (2 : Int)) fun (c17 : (Int × Unit)) =>
                    cond ((!(((c17).1 == (0 : Int)) == ((((a1).length : Nat) : Int) == (((a0).length : Nat) : Int))))) (
                      c = (false, ())) (
                      optAll (law04_num.R (7 : Int)) fun (c18 : (Int × Unit)) =>
                      cond (((c18).1 != (7 : Int))) (
                        c = (false, ())) (
                        cond (((((a1).length : Nat) : Int) == (((a0).length : Nat) : Int))) (
                          needs (((((((overD (List.replicate ((Int.toNat (((a0).length : Nat) : Int))) [(DV.v (Value.int IntKind.i64 (0 : Int)))]) 0 ((((a0).take ((a0).length))).take ((Int.toNat (((a0).length : Nat) : Int)))))).take ((Int.toNat (((a0).length : Nat) : Int))))).length * 8) ≤ 140737488355328) ∧ ((((((overD (List.replicate ((Int.toNat (((a0).length : Nat) : Int))) [(DV.v (Value.int IntKind.i64 (0 : Int)))]) 0 ((((a0).take ((a0).length))).take ((Int.toNat (((a0).length : Nat) : Int)))))).take ((Int.toNat (((a0).length : Nat) : Int))))).length * 1) ≤ 140737488355328)) (
                          optAll (ref04_Values.R (((((overD (List.replicate ((Int.toNat (((a0).length : Nat) : Int))) [(DV.v (Value.int IntKind.i64 (0 : Int)))]) 0 ((((a0).take ((a0).length))).take ((Int.toNat (((a0).length : Nat) : Int)))))).take ((Int.toNat (((a0).length : Nat) : Int))))).take (((((overD (List.replicate ((Int.toNat (((a0).length : Nat) : Int))) [(DV.v (Value.int IntKind.i64 (0 : Int)))]) 0 ((((a0).take ((a0).length))).take ((Int.toNat (((a0).length : Nat) : Int)))))).take ((Int.toNat (((a0).length : Nat) : Int))))).length)) a1) fun (c19 : (Bool × Unit)) =>
                          cond ((!(c19).1)) (
                            c = (false, ())) (
                            H18 a2 a3 a1 (0 : Int) (Int.toNat (((a0).length : Nat) : Int)) (0 : Int) [] (overD (List.replicate ((Int.toNat (((a0).length : Nat) : Int))) [(DV.v (Value.int IntKind.i64 (0 : Int)))]) 0 ((((a0).take ((a0).length))).take ((Int.toNat (((a0).length : Nat) : Int))))) c))) (
                          needs (((((((overD (List.replicate ((Int.toNat (((a0).length : Nat) : Int))) [(DV.v (Value.int IntKind.i64 (0 : Int)))]) 0 ((((a0).take ((a0).length))).take ((Int.toNat (((a0).length : Nat) : Int)))))).take ((Int.toNat (((a0).length : Nat) : Int))))).length * 8) ≤ 140737488355328) ∧ ((((((overD (List.replicate ((Int.toNat (((a0).length : Nat) : Int))) [(DV.v (Value.int IntKind.i64 (0 : Int)))]) 0 ((((a0).take ((a0).length))).take ((Int.toNat (((a0).length : Nat) : Int)))))).take ((Int.toNat (((a0).length : Nat) : Int))))).length * 1) ≤ 140737488355328)) (
                          optAll (ref04_Values.R (((((overD (List.replicate ((Int.toNat (((a0).length : Nat) : Int))) [(DV.v (Value.int IntKind.i64 (0 : Int)))]) 0 ((((a0).take ((a0).length))).take ((Int.toNat (((a0).length : Nat) : Int)))))).take ((Int.toNat (((a0).length : Nat) : Int))))).take (((((overD (List.replicate ((Int.toNat (((a0).length : Nat) : Int))) [(DV.v (Value.int IntKind.i64 (0 : Int)))]) 0 ((((a0).take ((a0).length))).take ((Int.toNat (((a0).length : Nat) : Int)))))).take ((Int.toNat (((a0).length : Nat) : Int))))).length)) a0) fun (c20 : (Bool × Unit)) =>
                          cond ((!(c20).1)) (
                            c = (false, ())) (
                            H18 a2 a3 a0 (0 : Int) (Int.toNat (((a0).length : Nat) : Int)) (0 : Int) [] (overD (List.replicate ((Int.toNat (((a0).length : Nat) : Int))) [(DV.v (Value.int IntKind.i64 (0 : Int)))]) 0 ((((a0).take ((a0).length))).take ((Int.toNat (((a0).length : Nat) : Int))))) c))))))) (
                  optAll (law04_num.R (0 : Int)) fun (c21 : (Int × Unit)) =>
                  cond (((c21).1 != (0 : Int))) (
                    c = (false, ())) (
                    optAll (law04_num.R (0 : Int)) fun (c22 : (Int × Unit)) =>
                    cond ((!(((c22).1 == (0 : Int)) == ((((a1).length : Nat) : Int) == (((a0).length : Nat) : Int))))) (
                      c = (false, ())) (
                      optAll (law04_num.R (7 : Int)) fun (c23 : (Int × Unit)) =>
                      cond (((c23).1 != (7 : Int))) (
                        c = (false, ())) (
                        cond (((((a1).length : Nat) : Int) == (((a0).length : Nat) : Int))) (
                          needs (((((((overD (overD (List.replicate ((Int.toNat (((a0).length : Nat) : Int))) [(DV.v (Value.int IntKind.i64 (0 : Int)))]) 0 ((((a0).take ((a0).length))).take ((Int.toNat (((a0).length : Nat) : Int))))) 0 ((a1).take ((Int.toNat (((a0).length : Nat) : Int)))))).take ((Int.toNat (((a0).length : Nat) : Int))))).length * 8) ≤ 140737488355328) ∧ ((((((overD (overD (List.replicate ((Int.toNat (((a0).length : Nat) : Int))) [(DV.v (Value.int IntKind.i64 (0 : Int)))]) 0 ((((a0).take ((a0).length))).take ((Int.toNat (((a0).length : Nat) : Int))))) 0 ((a1).take ((Int.toNat (((a0).length : Nat) : Int)))))).take ((Int.toNat (((a0).length : Nat) : Int))))).length * 1) ≤ 140737488355328)) (
                          optAll (ref04_Values.R (((((overD (overD (List.replicate ((Int.toNat (((a0).length : Nat) : Int))) [(DV.v (Value.int IntKind.i64 (0 : Int)))]) 0 ((((a0).take ((a0).length))).take ((Int.toNat (((a0).length : Nat) : Int))))) 0 ((a1).take ((Int.toNat (((a0).length : Nat) : Int)))))).take ((Int.toNat (((a0).length : Nat) : Int))))).take (((((overD (overD (List.replicate ((Int.toNat (((a0).length : Nat) : Int))) [(DV.v (Value.int IntKind.i64 (0 : Int)))]) 0 ((((a0).take ((a0).length))).take ((Int.toNat (((a0).length : Nat) : Int))))) 0 ((a1).take ((Int.toNat (((a0).length : Nat) : Int)))))).take ((Int.toNat (((a0).length : Nat) : Int))))).length)) a1) fun (c24 : (Bool × Unit)) =>
                          cond ((!(c24).1)) (
                            c = (false, ())) (
                            H18 a2 a3 a1 (0 : Int) (Int.toNat (((a0).length : Nat) : Int)) (0 : Int) [] (overD (overD (List.replicate ((Int.toNat (((a0).length : Nat) : Int))) [(DV.v (Value.int IntKind.i64 (0 : Int)))]) 0 ((((a0).take ((a0).length))).take ((Int.toNat (((a0).length : Nat) : Int))))) 0 ((a1).take ((Int.toNat (((a0).length : Nat) : Int))))) c))) (
                          needs (((((((overD (overD (List.replicate ((Int.toNat (((a0).length : Nat) : Int))) [(DV.v (Value.int IntKind.i64 (0 : Int)))]) 0 ((((a0).take ((a0).length))).take ((Int.toNat (((a0).length : Nat) : Int))))) 0 ((a1).take ((Int.toNat (((a0).length : Nat) : Int)))))).take ((Int.toNat (((a0).length : Nat) : Int))))).length * 8) ≤ 140737488355328) ∧ ((((((overD (overD (List.replicate ((Int.toNat (((a0).length : Nat) : Int))) [(DV.v (Value.int IntKind.i64 (0 : Int)))]) 0 ((((a0).take ((a0).length))).take ((Int.toNat (((a0).length : Nat) : Int))))) 0 ((a1).take ((Int.toNat (((a0).length : Nat) : Int)))))).take ((Int.toNat (((a0).length : Nat) : Int))))).length * 1) ≤ 140737488355328)) (
                          optAll (ref04_Values.R (((((overD (overD (List.replicate ((Int.toNat (((a0).length : Nat) : Int))) [(DV.v (Value.int IntKind.i64 (0 : Int)))]) 0 ((((a0).take ((a0).length))).take ((Int.toNat (((a0).length : Nat) : Int))))) 0 ((a1).take ((Int.toNat (((a0).length : Nat) : Int)))))).take ((Int.toNat (((a0).length : Nat) : Int))))).take (((((overD (overD (List.replicate ((Int.toNat (((a0).length : Nat) : Int))) [(DV.v (Value.int IntKind.i64 (0 : Int)))]) 0 ((((a0).take ((a0).length))).take ((Int.toNat (((a0).length : Nat) : Int))))) 0 ((a1).take ((Int.toNat (((a0).length : Nat) : Int)))))).take ((Int.toNat (((a0).length : Nat) : Int))))).length)) a0) fun (c25 : (Bool × Unit)) =>
                          cond ((!(c25).1)) (
                            c = (false, ())) (
                            H18 a2 a3 a0 (0 : Int) (Int.toNat (((a0).length : Nat) : Int)) (0 : Int) [] (overD (overD (List.replicate ((Int.toNat (((a0).length : Nat) : Int))) [(DV.v (Value.int IntKind.i64 (0 : Int)))]) 0 ((((a0).take ((a0).length))).take ((Int.toNat (((a0).length : Nat) : Int))))) 0 ((a1).take ((Int.toNat (((a0).length : Nat) : Int))))) c)))))))))))))))) : R a0 a1 a2 a3 = some c := start_rule (n := 400) (lv := lv) (noSum_ok _) (by kernel_rfl) h
theorem H18_step (x2 : List (List DV)) (x3 : Int) (x14 : List (List DV)) (x15 : Int) (b598 : Nat) (b598_1 : Int) (b599 : List (List DV)) (b566 : List (List DV)) (c : (Bool × Unit)) (h :
    cond (decide ((x15 < (((x2).length : Nat) : Int)))) (
      needs ((0 : Int) ≤ x15) (
      optAll ((x2)[(Int.toNat x15)]?) fun (r26 : List DV) =>
      optAll ((dInt IntKind.i64 r26 0)) fun (z27 : Int) =>
      optAll ((dInt IntKind.i64 r26 1)) fun (z28 : Int) =>
      optAll ((dInt IntKind.i64 r26 2)) fun (z29 : Int) =>
      optAll ((dInt IntKind.i64 r26 3)) fun (z30 : Int) =>
      optAll ((dInt IntKind.i64 r26 4)) fun (z31 : Int) =>
      optAll (cells_Check.R z27 z28 z29 z30 z31 ((b598 : Nat) : Int)) fun (c32 : (Int × Unit)) =>
      cond (((c32).1 != (0 : Int))) (
        needs ((0 : Int) ≤ x15) (
        optAll ((x2)[(Int.toNat x15)]?) fun (r33 : List DV) =>
        optAll ((dInt IntKind.i64 r33 0)) fun (z34 : Int) =>
        optAll ((dInt IntKind.i64 r33 1)) fun (z35 : Int) =>
        optAll ((dInt IntKind.i64 r33 2)) fun (z36 : Int) =>
        optAll ((dInt IntKind.i64 r33 3)) fun (z37 : Int) =>
        optAll ((dInt IntKind.i64 r33 4)) fun (z38 : Int) =>
        optAll (ref04_Apply.R x14 z34 z35 z36 z37 z38) fun (c39 : (List (List DV) × ((Int × (Int × (Int × (Int × (Int × (Int × (Bool × Unit))))))) × Unit))) =>
        H18 x2 x3 (c39).1 (IntKind.i64.wrap (x15 + (1 : Int))) b598 b598_1 b599 b566 c)) (
        needs (((0 : Int) ≤ z28) ∧ (z28 < ((b598 : Nat) : Int))) (
        optAll ((b566)[(0 + (Int.toNat z28))]?) fun (r40 : List DV) =>
        optAll ((dInt IntKind.i64 r40 0)) fun (z41 : Int) =>
        optAll (cells_step.R z41 z27 z28 z29 z30 z31) fun (c42 : (((Int × (Int × (Int × (Int × (Int × (Int × (Bool × Unit))))))) × Unit) × Int)) =>
        cond (decide (((((b599).length : Nat) : Int) < (2000 : Int)))) (
          needs ((b599).length = (b599).length) (
          needs (((((b599 ++ (([[(DV.v (Value.int IntKind.i64 (((c42).1).1).1)), (DV.v (Value.int IntKind.i64 ((((c42).1).1).2).1)), (DV.v (Value.int IntKind.i64 (((((c42).1).1).2).2).1)), (DV.v (Value.int IntKind.i64 ((((((c42).1).1).2).2).2).1)), (DV.v (Value.int IntKind.i64 (((((((c42).1).1).2).2).2).2).1)), (DV.v (Value.int IntKind.i64 ((((((((c42).1).1).2).2).2).2).2).1)), (DV.v (Value.bool (((((((((c42).1).1).2).2).2).2).2).2).1))]]).take (1)))).length * 56) ≤ 140737488355328) ∧ ((((b599 ++ (([[(DV.v (Value.int IntKind.i64 (((c42).1).1).1)), (DV.v (Value.int IntKind.i64 ((((c42).1).1).2).1)), (DV.v (Value.int IntKind.i64 (((((c42).1).1).2).2).1)), (DV.v (Value.int IntKind.i64 ((((((c42).1).1).2).2).2).1)), (DV.v (Value.int IntKind.i64 (((((((c42).1).1).2).2).2).2).1)), (DV.v (Value.int IntKind.i64 ((((((((c42).1).1).2).2).2).2).2).1)), (DV.v (Value.bool (((((((((c42).1).1).2).2).2).2).2).2).1))]]).take (1)))).length * 7) ≤ 140737488355328)) (
          needs ((0 : Int) ≤ x15) (
          optAll ((x2)[(Int.toNat x15)]?) fun (r43 : List DV) =>
          optAll ((dInt IntKind.i64 r43 0)) fun (z44 : Int) =>
          optAll ((dInt IntKind.i64 r43 1)) fun (z45 : Int) =>
          optAll ((dInt IntKind.i64 r43 2)) fun (z46 : Int) =>
          optAll ((dInt IntKind.i64 r43 3)) fun (z47 : Int) =>
          optAll ((dInt IntKind.i64 r43 4)) fun (z48 : Int) =>
          optAll (ref04_Apply.R x14 z44 z45 z46 z47 z48) fun (c49 : (List (List DV) × ((Int × (Int × (Int × (Int × (Int × (Int × (Bool × Unit))))))) × Unit))) =>
          H18 x2 x3 (c49).1 (IntKind.i64.wrap (x15 + (1 : Int))) b598 (IntKind.i64.wrap (b598_1 + (1 : Int))) (b599 ++ (([[(DV.v (Value.int IntKind.i64 (((c42).1).1).1)), (DV.v (Value.int IntKind.i64 ((((c42).1).1).2).1)), (DV.v (Value.int IntKind.i64 (((((c42).1).1).2).2).1)), (DV.v (Value.int IntKind.i64 ((((((c42).1).1).2).2).2).1)), (DV.v (Value.int IntKind.i64 (((((((c42).1).1).2).2).2).2).1)), (DV.v (Value.int IntKind.i64 ((((((((c42).1).1).2).2).2).2).2).1)), (DV.v (Value.bool (((((((((c42).1).1).2).2).2).2).2).2).1))]]).take (1))) ((b566).set ((0 + (Int.toNat z28))) (putD r40 0 [(DV.v (Value.int IntKind.i64 (c42).2))])) c)))) (
          needs ((0 : Int) ≤ x15) (
          optAll ((x2)[(Int.toNat x15)]?) fun (r50 : List DV) =>
          optAll ((dInt IntKind.i64 r50 0)) fun (z51 : Int) =>
          optAll ((dInt IntKind.i64 r50 1)) fun (z52 : Int) =>
          optAll ((dInt IntKind.i64 r50 2)) fun (z53 : Int) =>
          optAll ((dInt IntKind.i64 r50 3)) fun (z54 : Int) =>
          optAll ((dInt IntKind.i64 r50 4)) fun (z55 : Int) =>
          optAll (ref04_Apply.R x14 z51 z52 z53 z54 z55) fun (c56 : (List (List DV) × ((Int × (Int × (Int × (Int × (Int × (Int × (Bool × Unit))))))) × Unit))) =>
          H18 x2 x3 (c56).1 (IntKind.i64.wrap (x15 + (1 : Int))) b598 (IntKind.i64.wrap (b598_1 + (1 : Int))) b599 ((b566).set ((0 + (Int.toNat z28))) (putD r40 0 [(DV.v (Value.int IntKind.i64 (c42).2))])) c)))))) (
      cond (decide ((x3 ≥ (0 : Int)))) (
        cond (decide ((x3 < (((x14).length : Nat) : Int)))) (
          needs ((0 : Int) ≤ x3) (
          optAll ((x14)[(Int.toNat x3)]?) fun (r57 : List DV) =>
          optAll ((dInt IntKind.i64 r57 0)) fun (z58 : Int) =>
          needs ((((((b566).take (b598))).length * 8) ≤ 140737488355328) ∧ (((((b566).take (b598))).length * 1) ≤ 140737488355328)) (
          optAll (ref04_Values.R ((((b566).take (b598))).take ((((b566).take (b598))).length)) x14) fun (c59 : (Bool × Unit)) =>
          cond ((c59).1) (
            cond (decide ((x3 < (0 : Int)))) (
              cond (((0 : Int) == z58)) (
                optAll (law04_live.R) fun (c60 : (Bool × Unit)) =>
                c = ((c60).1, ())) (
                c = (false, ()))) (
              cond (decide ((x3 ≥ ((b598 : Nat) : Int)))) (
                cond (((0 : Int) == z58)) (
                  optAll (law04_live.R) fun (c61 : (Bool × Unit)) =>
                  c = ((c61).1, ())) (
                  c = (false, ()))) (
                needs (((0 : Int) ≤ x3) ∧ (x3 < ((b598 : Nat) : Int))) (
                optAll ((b566)[(0 + (Int.toNat x3))]?) fun (r62 : List DV) =>
                optAll ((dInt IntKind.i64 r62 0)) fun (z63 : Int) =>
                cond ((z63 == z58)) (
                  optAll (law04_live.R) fun (c64 : (Bool × Unit)) =>
                  c = ((c64).1, ())) (
                  c = (false, ())))))) (
            c = (false, ()))))) (
          needs ((((((b566).take (b598))).length * 8) ≤ 140737488355328) ∧ (((((b566).take (b598))).length * 1) ≤ 140737488355328)) (
          optAll (ref04_Values.R ((((b566).take (b598))).take ((((b566).take (b598))).length)) x14) fun (c65 : (Bool × Unit)) =>
          cond ((c65).1) (
            cond (decide ((x3 < (0 : Int)))) (
              optAll (law04_live.R) fun (c66 : (Bool × Unit)) =>
              c = ((c66).1, ())) (
              cond (decide ((x3 ≥ ((b598 : Nat) : Int)))) (
                optAll (law04_live.R) fun (c67 : (Bool × Unit)) =>
                c = ((c67).1, ())) (
                needs (((0 : Int) ≤ x3) ∧ (x3 < ((b598 : Nat) : Int))) (
                optAll ((b566)[(0 + (Int.toNat x3))]?) fun (r68 : List DV) =>
                optAll ((dInt IntKind.i64 r68 0)) fun (z69 : Int) =>
                cond ((z69 == (0 : Int))) (
                  optAll (law04_live.R) fun (c70 : (Bool × Unit)) =>
                  c = ((c70).1, ())) (
                  c = (false, ())))))) (
            c = (false, ()))))) (
        needs ((((((b566).take (b598))).length * 8) ≤ 140737488355328) ∧ (((((b566).take (b598))).length * 1) ≤ 140737488355328)) (
        optAll (ref04_Values.R ((((b566).take (b598))).take ((((b566).take (b598))).length)) x14) fun (c71 : (Bool × Unit)) =>
        cond ((c71).1) (
          cond (decide ((x3 < (0 : Int)))) (
            optAll (law04_live.R) fun (c72 : (Bool × Unit)) =>
            c = ((c72).1, ())) (
            cond (decide ((x3 ≥ ((b598 : Nat) : Int)))) (
              optAll (law04_live.R) fun (c73 : (Bool × Unit)) =>
              c = ((c73).1, ())) (
              needs (((0 : Int) ≤ x3) ∧ (x3 < ((b598 : Nat) : Int))) (
              optAll ((b566)[(0 + (Int.toNat x3))]?) fun (r74 : List DV) =>
              optAll ((dInt IntKind.i64 r74 0)) fun (z75 : Int) =>
              cond ((z75 == (0 : Int))) (
                optAll (law04_live.R) fun (c76 : (Bool × Unit)) =>
                c = ((c76).1, ())) (
                c = (false, ())))))) (
          c = (false, ())))))) : H18 x2 x3 x14 x15 b598 b598_1 b599 b566 c := head_rule (n := 400) (noSum_ok _) (by kernel_rfl) h
end law04_CellsLaid
/-! garrison/garrisonlaw04.live -/
namespace law04_live
theorem closed : R = some (true, ()) := ret_closed (n := 4000) (v := .d (.v (.bool true))) (by kernel_rfl) (by kernel_rfl)
end law04_live
/-! garrison/cells.Apply -/
namespace cells_Apply
def lv : Live := []
theorem start (a0 : List (List DV)) (a1_0 : Int) (a1_1 : Int) (a1_2 : Int) (a1_3 : Int) (a1_4 : Int) (c : (List (List DV) × ((Int × (Int × (Int × (Int × (Int × (Int × (Bool × Unit))))))) × Unit))) (h :
    optAll (cells_Check.R a1_0 a1_1 a1_2 a1_3 a1_4 (((a0).length : Nat) : Int)) fun (c0 : (Int × Unit)) =>
    cond (((c0).1 != (0 : Int))) (
      needs ((((a0).length * 8) ≤ 140737488355328) ∧ (((a0).length * 1) ≤ 140737488355328)) (
      c = (((a0).take ((a0).length)), (((0 : Int), ((0 : Int), ((0 : Int), ((0 : Int), ((0 : Int), ((0 : Int), (false, ()))))))), ())))) (
      needs ((((a0).length * 8) ≤ 140737488355328) ∧ (((a0).length * 1) ≤ 140737488355328)) (
      needs (((0 : Int) ≤ a1_1) ∧ (a1_1 < (((a0).length : Nat) : Int))) (
      optAll ((a0)[(0 + (Int.toNat a1_1))]?) fun (r1 : List DV) =>
      optAll ((dInt IntKind.i64 r1 0)) fun (z2 : Int) =>
      optAll (cells_step.R z2 a1_0 a1_1 a1_2 a1_3 a1_4) fun (c3 : (((Int × (Int × (Int × (Int × (Int × (Int × (Bool × Unit))))))) × Unit) × Int)) =>
      c = (((((a0).set ((0 + (Int.toNat a1_1))) (putD r1 0 [(DV.v (Value.int IntKind.i64 (c3).2))]))).take ((a0).length)), (((((c3).1).1).1, (((((c3).1).1).2).1, ((((((c3).1).1).2).2).1, (((((((c3).1).1).2).2).2).1, ((((((((c3).1).1).2).2).2).2).1, (((((((((c3).1).1).2).2).2).2).2).1, ((((((((((c3).1).1).2).2).2).2).2).2).1, ()))))))), ())))))) : R a0 a1_0 a1_1 a1_2 a1_3 a1_4 = some c := start_rule (n := 400) (lv := lv) (noSum_ok _) (by kernel_rfl) h
end cells_Apply
/-! garrison/garrisonref04.Apply -/
namespace ref04_Apply
def lv : Live := []
theorem start (a0 : List (List DV)) (a1_0 : Int) (a1_1 : Int) (a1_2 : Int) (a1_3 : Int) (a1_4 : Int) (c : (List (List DV) × ((Int × (Int × (Int × (Int × (Int × (Int × (Bool × Unit))))))) × Unit))) (h :
    optAll (ref04_Is.R a1_0 a1_1 a1_2 a1_3 a1_4 (((a0).length : Nat) : Int)) fun (c0 : (Bool × Unit)) =>
    cond ((!(c0).1)) (
      c = (a0, (((0 : Int), ((0 : Int), ((0 : Int), ((0 : Int), ((0 : Int), ((0 : Int), (false, ()))))))), ()))) (
      needs ((0 : Int) ≤ a1_1) (
      optAll ((a0)[(Int.toNat a1_1)]?) fun (r1 : List DV) =>
      optAll ((dInt IntKind.i64 r1 0)) fun (z2 : Int) =>
      cond ((a1_0 == (2 : Int))) (
        needs ((((a0).length * 8) ≤ 140737488355328) ∧ (((a0).length * 1) ≤ 140737488355328)) (
        needs (((0 : Int) ≤ a1_1) ∧ (a1_1 < (((a0).length : Nat) : Int))) (
        optAll ((a0)[(0 + (Int.toNat a1_1))]?) fun (r3 : List DV) =>
        needs (1 ≤ (r3).length) (
        c = (((((a0).set ((0 + (Int.toNat a1_1))) (putD r3 0 [(DV.v (Value.int IntKind.i64 a1_3))]))).take ((a0).length)), ((a1_0, (a1_1, (a1_2, (a1_3, (a1_4, (z2, (true, ()))))))), ())))))) (
        cond ((a1_0 == (3 : Int))) (
          cond ((z2 == a1_2)) (
            needs ((((a0).length * 8) ≤ 140737488355328) ∧ (((a0).length * 1) ≤ 140737488355328)) (
            needs (((0 : Int) ≤ a1_1) ∧ (a1_1 < (((a0).length : Nat) : Int))) (
            optAll ((a0)[(0 + (Int.toNat a1_1))]?) fun (r4 : List DV) =>
            needs (1 ≤ (r4).length) (
            c = (((((a0).set ((0 + (Int.toNat a1_1))) (putD r4 0 [(DV.v (Value.int IntKind.i64 a1_3))]))).take ((a0).length)), ((a1_0, (a1_1, (a1_2, (a1_3, (a1_4, (z2, ((z2 == a1_2), ()))))))), ())))))) (
            needs ((((a0).length * 8) ≤ 140737488355328) ∧ (((a0).length * 1) ≤ 140737488355328)) (
            needs (((0 : Int) ≤ a1_1) ∧ (a1_1 < (((a0).length : Nat) : Int))) (
            optAll ((a0)[(0 + (Int.toNat a1_1))]?) fun (r5 : List DV) =>
            needs (1 ≤ (r5).length) (
            c = (((((a0).set ((0 + (Int.toNat a1_1))) (putD r5 0 [(DV.v (Value.int IntKind.i64 z2))]))).take ((a0).length)), ((a1_0, (a1_1, (a1_2, (a1_3, (a1_4, (z2, ((z2 == a1_2), ()))))))), ()))))))) (
          cond ((a1_0 == (4 : Int))) (
            cond ((z2 == (0 : Int))) (
              needs ((((a0).length * 8) ≤ 140737488355328) ∧ (((a0).length * 1) ≤ 140737488355328)) (
              needs (((0 : Int) ≤ a1_1) ∧ (a1_1 < (((a0).length : Nat) : Int))) (
              optAll ((a0)[(0 + (Int.toNat a1_1))]?) fun (r6 : List DV) =>
              needs (1 ≤ (r6).length) (
              c = (((((a0).set ((0 + (Int.toNat a1_1))) (putD r6 0 [(DV.v (Value.int IntKind.i64 a1_4))]))).take ((a0).length)), ((a1_0, (a1_1, (a1_2, (a1_3, (a1_4, (z2, ((z2 == (0 : Int)), ()))))))), ())))))) (
              needs ((((a0).length * 8) ≤ 140737488355328) ∧ (((a0).length * 1) ≤ 140737488355328)) (
              needs (((0 : Int) ≤ a1_1) ∧ (a1_1 < (((a0).length : Nat) : Int))) (
              optAll ((a0)[(0 + (Int.toNat a1_1))]?) fun (r7 : List DV) =>
              needs (1 ≤ (r7).length) (
              c = (((((a0).set ((0 + (Int.toNat a1_1))) (putD r7 0 [(DV.v (Value.int IntKind.i64 z2))]))).take ((a0).length)), ((a1_0, (a1_1, (a1_2, (a1_3, (a1_4, (z2, ((z2 == (0 : Int)), ()))))))), ()))))))) (
            cond ((a1_0 == (5 : Int))) (
              cond ((z2 == a1_4)) (
                needs ((((a0).length * 8) ≤ 140737488355328) ∧ (((a0).length * 1) ≤ 140737488355328)) (
                needs (((0 : Int) ≤ a1_1) ∧ (a1_1 < (((a0).length : Nat) : Int))) (
                optAll ((a0)[(0 + (Int.toNat a1_1))]?) fun (r8 : List DV) =>
                needs (1 ≤ (r8).length) (
                c = (((((a0).set ((0 + (Int.toNat a1_1))) (putD r8 0 [(DV.v (Value.int IntKind.i64 (0 : Int)))]))).take ((a0).length)), ((a1_0, (a1_1, (a1_2, (a1_3, (a1_4, (z2, ((z2 == a1_4), ()))))))), ())))))) (
                needs ((((a0).length * 8) ≤ 140737488355328) ∧ (((a0).length * 1) ≤ 140737488355328)) (
                needs (((0 : Int) ≤ a1_1) ∧ (a1_1 < (((a0).length : Nat) : Int))) (
                optAll ((a0)[(0 + (Int.toNat a1_1))]?) fun (r9 : List DV) =>
                needs (1 ≤ (r9).length) (
                c = (((((a0).set ((0 + (Int.toNat a1_1))) (putD r9 0 [(DV.v (Value.int IntKind.i64 z2))]))).take ((a0).length)), ((a1_0, (a1_1, (a1_2, (a1_3, (a1_4, (z2, ((z2 == a1_4), ()))))))), ()))))))) (
              needs ((((a0).length * 8) ≤ 140737488355328) ∧ (((a0).length * 1) ≤ 140737488355328)) (
              needs (((0 : Int) ≤ a1_1) ∧ (a1_1 < (((a0).length : Nat) : Int))) (
              optAll ((a0)[(0 + (Int.toNat a1_1))]?) fun (r10 : List DV) =>
              needs (1 ≤ (r10).length) (
              c = (((((a0).set ((0 + (Int.toNat a1_1))) (putD r10 0 [(DV.v (Value.int IntKind.i64 z2))]))).take ((a0).length)), ((a1_0, (a1_1, (a1_2, (a1_3, (a1_4, (z2, (true, ()))))))), ())))))))))))) : R a0 a1_0 a1_1 a1_2 a1_3 a1_4 = some c := start_rule (n := 400) (lv := lv) (noSum_ok _) (by kernel_rfl) h
end ref04_Apply
/-! garrison/garrisonref04.Values -/
namespace ref04_Values
def lv : Live := [((5, 1048576), [0, 1, 5], [])]
abbrev H5 (x0 : List (List DV)) (x1 : List (List DV)) (x5 : Int) (c : (Bool × Unit)) : Prop := HeadAns cfg 14 sh lv (bd cfg 14 [1, 1, 0, 1, 0, 0]) 1048576 [.inBlock 0, .code (bd cfg 14 [1, 1, 1])]
  [(AV.d (DV.lst 1 x0)), (AV.d (DV.lst 1 x1)), (AV.d (DV.v (Value.int IntKind.i64 x5)))] [] 1048576 c
theorem start (a0 : List (List DV)) (a1 : List (List DV)) (c : (Bool × Unit)) (h :
    cond (((((a0).length : Nat) : Int) != (((a1).length : Nat) : Int))) (
      c = (false, ())) (
      H5 a0 a1 (0 : Int) c)) : R a0 a1 = some c := start_rule (n := 400) (lv := lv) (noSum_ok _) (by kernel_rfl) h
theorem H5_step (x0 : List (List DV)) (x1 : List (List DV)) (x5 : Int) (c : (Bool × Unit)) (h :
    cond (decide ((x5 < (((x0).length : Nat) : Int)))) (
      needs ((0 : Int) ≤ x5) (
      optAll ((x0)[(Int.toNat x5)]?) fun (r0 : List DV) =>
      optAll ((dInt IntKind.i64 r0 0)) fun (z1 : Int) =>
      needs ((0 : Int) ≤ x5) (
      optAll ((x1)[(Int.toNat x5)]?) fun (r2 : List DV) =>
      optAll ((dInt IntKind.i64 r2 0)) fun (z3 : Int) =>
      cond ((z1 != z3)) (
        c = (false, ())) (
        H5 x0 x1 (IntKind.i64.wrap (x5 + (1 : Int))) c)))) (
      c = (true, ()))) : H5 x0 x1 x5 c := head_rule (n := 400) (noSum_ok _) (by kernel_rfl) h
end ref04_Values
/-! garrison/garrisonlaw04.small -/
namespace law04_small
def lv : Live := []
theorem start (a0 : List (List DV)) (c : (Bool × Unit)) (h :
    c = (decide (((((a0).length : Nat) : Int) ≤ (200 : Int))), ())) : R a0 = some c := start_rule (n := 400) (lv := lv) (noSum_ok _) (by kernel_rfl) h
end law04_small
/-! garrison/garrisonlaw04.num -/
namespace law04_num
def lv : Live := []
theorem start (a0 : Int) (c : (Int × Unit)) (h :
    c = (a0, ())) : R a0 = some c := start_rule (n := 400) (lv := lv) (noSum_ok _) (by kernel_rfl) h
end law04_num
/-! garrison/cells.Check -/
namespace cells_Check
def lv : Live := []
theorem start (a0_0 : Int) (a0_1 : Int) (a0_2 : Int) (a0_3 : Int) (a0_4 : Int) (a1 : Int) (c : (Int × Unit)) (h :
    cond ((a0_0 == (4 : Int))) (
      cond (decide ((a0_4 < (1 : Int)))) (
        c = ((2 : Int), ())) (
        cond (decide ((a0_1 ≥ (0 : Int)))) (
          cond (decide ((a0_1 < a1))) (
            c = ((0 : Int), ())) (
            c = ((2 : Int), ()))) (
          c = ((2 : Int), ())))) (
      cond ((a0_0 == (5 : Int))) (
        cond (decide ((a0_4 < (1 : Int)))) (
          c = ((2 : Int), ())) (
          cond (decide ((a0_1 ≥ (0 : Int)))) (
            cond (decide ((a0_1 < a1))) (
              c = ((0 : Int), ())) (
              c = ((2 : Int), ()))) (
            c = ((2 : Int), ())))) (
        cond ((a0_0 == (1 : Int))) (
          cond (decide ((a0_1 ≥ (0 : Int)))) (
            cond (decide ((a0_1 < a1))) (
              c = ((0 : Int), ())) (
              c = ((2 : Int), ()))) (
            c = ((2 : Int), ()))) (
          cond ((a0_0 == (2 : Int))) (
            cond (decide ((a0_1 ≥ (0 : Int)))) (
              cond (decide ((a0_1 < a1))) (
                c = ((0 : Int), ())) (
                c = ((2 : Int), ()))) (
              c = ((2 : Int), ()))) (
            cond ((a0_0 == (3 : Int))) (
              cond (decide ((a0_1 ≥ (0 : Int)))) (
                cond (decide ((a0_1 < a1))) (
                  c = ((0 : Int), ())) (
                  c = ((2 : Int), ()))) (
                c = ((2 : Int), ()))) (
              c = ((2 : Int), ()))))))) : R a0_0 a0_1 a0_2 a0_3 a0_4 a1 = some c := start_rule (n := 400) (lv := lv) (noSum_ok _) (by kernel_rfl) h
end cells_Check
/-! garrison/cells.step -/
namespace cells_step
theorem start (n : Int) (a0_0 : Int) (a0_1 : Int) (a0_2 : Int) (a0_3 : Int) (a0_4 : Int) (c : (((Int × (Int × (Int × (Int × (Int × (Int × (Bool × Unit))))))) × Unit) × Int)) (h :
    cond ((a0_0 == (1 : Int))) (
      c = (((a0_0, (a0_1, (a0_2, (a0_3, (a0_4, (n, (true, ()))))))), ()), n)) (
      cond ((a0_0 == (2 : Int))) (
        c = (((a0_0, (a0_1, (a0_2, (a0_3, (a0_4, (n, (true, ()))))))), ()), a0_3)) (
        cond ((a0_0 == (4 : Int))) (
          cond ((n == (0 : Int))) (
            c = (((a0_0, (a0_1, (a0_2, (a0_3, (a0_4, (n, ((n == (0 : Int)), ()))))))), ()), a0_4)) (
            c = (((a0_0, (a0_1, (a0_2, (a0_3, (a0_4, (n, ((n == (0 : Int)), ()))))))), ()), n))) (
          cond ((a0_0 == (5 : Int))) (
            cond ((n == a0_4)) (
              c = (((a0_0, (a0_1, (a0_2, (a0_3, (a0_4, (n, ((n == a0_4), ()))))))), ()), (0 : Int))) (
              c = (((a0_0, (a0_1, (a0_2, (a0_3, (a0_4, (n, ((n == a0_4), ()))))))), ()), n))) (
            cond ((n == a0_2)) (
              c = (((a0_0, (a0_1, (a0_2, (a0_3, (a0_4, (n, ((n == a0_2), ()))))))), ()), a0_3)) (
              c = (((a0_0, (a0_1, (a0_2, (a0_3, (a0_4, (n, ((n == a0_2), ()))))))), ()), n))))))) : R n a0_0 a0_1 a0_2 a0_3 a0_4 = some c := cell_rule (n := 400) (noSum_ok _) (by kernel_rfl) h
end cells_step
/-! garrison/garrisonref04.Zero -/
namespace ref04_Zero
def lv : Live := [((4, 1048576), [0, 3, 4], [3])]
abbrev H4 (x0 : Int) (b3 : List (List DV)) (x4 : Int) (c : (List (List DV) × Unit)) : Prop := HeadAns cfg 20 sh lv (bd cfg 20 [1, 1, 0, 1, 0, 0]) 1048576 [.inBlock 0, .code (bd cfg 20 [1, 1, 1])]
  [(AV.d (DV.v (Value.int IntKind.i64 x0))), (AV.ref 3 0 0 (List.length b3)), (AV.d (DV.v (Value.int IntKind.i64 x4)))] [(Option.some (VBlk.drow 1 0 b3))] 1048576 c
theorem start (a0 : Int) (c : (List (List DV) × Unit)) (h :
    H4 a0 [] (0 : Int) c) : R a0 = some c := start_rule (n := 400) (lv := lv) (noSum_ok _) (by kernel_rfl) h
theorem H4_step (x0 : Int) (b3 : List (List DV)) (x4 : Int) (c : (List (List DV) × Unit)) (h :
    cond (decide ((x4 < x0))) (
      needs ((b3).length = (b3).length) (
      needs (((((b3 ++ (([[(DV.v (Value.int IntKind.i64 (0 : Int)))]]).take (1)))).length * 8) ≤ 140737488355328) ∧ ((((b3 ++ (([[(DV.v (Value.int IntKind.i64 (0 : Int)))]]).take (1)))).length * 1) ≤ 140737488355328)) (
      H4 x0 (b3 ++ (([[(DV.v (Value.int IntKind.i64 (0 : Int)))]]).take (1))) (IntKind.i64.wrap (x4 + (1 : Int))) c))) (
      c = (((b3).take ((b3).length)), ()))) : H4 x0 b3 x4 c := head_rule (n := 400) (noSum_ok _) (by kernel_rfl) h
end ref04_Zero
/-! garrison/garrisonref04.Is -/
namespace ref04_Is
def lv : Live := []
theorem start (a0_0 : Int) (a0_1 : Int) (a0_2 : Int) (a0_3 : Int) (a0_4 : Int) (a1 : Int) (c : (Bool × Unit)) (h :
    cond (decide ((a0_0 ≥ (1 : Int)))) (
      cond (decide ((a0_0 ≤ (5 : Int)))) (
        cond (decide ((a0_1 ≥ (0 : Int)))) (
          cond (decide ((a0_1 < a1))) (
            cond (decide ((a0_0 < (4 : Int)))) (
              c = (true, ())) (
              c = (decide ((a0_4 ≥ (1 : Int))), ()))) (
            c = (false, ()))) (
          c = (false, ()))) (
        c = (false, ()))) (
      c = (false, ()))) : R a0_0 a0_1 a0_2 a0_3 a0_4 a1 = some c := start_rule (n := 400) (lv := lv) (noSum_ok _) (by kernel_rfl) h
end ref04_Is
/-! garrison/garrisonref04.Recs -/
namespace ref04_Recs
def lv : Live := [((5, 1048576), [0, 1, 5], [])]
abbrev H5 (x0 : List (List DV)) (x1 : List (List DV)) (x5 : Int) (c : (Bool × Unit)) : Prop := HeadAns cfg 26 sh lv (bd cfg 26 [1, 1, 0, 1, 0, 0]) 1048576 [.inBlock 0, .code (bd cfg 26 [1, 1, 1])]
  [(AV.d (DV.lst 7 x0)), (AV.d (DV.lst 7 x1)), (AV.d (DV.v (Value.int IntKind.i64 x5)))] [] 1048576 c
theorem start (a0 : List (List DV)) (a1 : List (List DV)) (c : (Bool × Unit)) (h :
    cond (((((a0).length : Nat) : Int) != (((a1).length : Nat) : Int))) (
      c = (false, ())) (
      H5 a0 a1 (0 : Int) c)) : R a0 a1 = some c := start_rule (n := 400) (lv := lv) (noSum_ok _) (by kernel_rfl) h
theorem H5_step (x0 : List (List DV)) (x1 : List (List DV)) (x5 : Int) (c : (Bool × Unit)) (h :
    cond (decide ((x5 < (((x0).length : Nat) : Int)))) (
      needs ((0 : Int) ≤ x5) (
      optAll ((x0)[(Int.toNat x5)]?) fun (r0 : List DV) =>
      optAll ((dInt IntKind.i64 r0 0)) fun (z1 : Int) =>
      optAll ((dInt IntKind.i64 r0 1)) fun (z2 : Int) =>
      optAll ((dInt IntKind.i64 r0 2)) fun (z3 : Int) =>
      optAll ((dInt IntKind.i64 r0 3)) fun (z4 : Int) =>
      optAll ((dInt IntKind.i64 r0 4)) fun (z5 : Int) =>
      optAll ((dInt IntKind.i64 r0 5)) fun (z6 : Int) =>
      optAll ((dBool r0 6)) fun (z7 : Bool) =>
      needs ((0 : Int) ≤ x5) (
      optAll ((x1)[(Int.toNat x5)]?) fun (r8 : List DV) =>
      optAll ((dInt IntKind.i64 r8 0)) fun (z9 : Int) =>
      optAll ((dInt IntKind.i64 r8 1)) fun (z10 : Int) =>
      optAll ((dInt IntKind.i64 r8 2)) fun (z11 : Int) =>
      optAll ((dInt IntKind.i64 r8 3)) fun (z12 : Int) =>
      optAll ((dInt IntKind.i64 r8 4)) fun (z13 : Int) =>
      optAll ((dInt IntKind.i64 r8 5)) fun (z14 : Int) =>
      optAll ((dBool r8 6)) fun (z15 : Bool) =>
      cond ((!((z1 == z9) && ((z2 == z10) && ((z3 == z11) && ((z4 == z12) && ((z5 == z13) && ((z6 == z14) && ((z7 == z15) && true))))))))) (
        c = (false, ())) (
        H5 x0 x1 (IntKind.i64.wrap (x5 + (1 : Int))) c)))) (
      c = (true, ()))) : H5 x0 x1 x5 c := head_rule (n := 400) (noSum_ok _) (by kernel_rfl) h
end ref04_Recs
end Go.AI
