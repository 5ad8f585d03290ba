/-
  Own work: printed by Tell, a program of this work: what each function's body does over symbols.
-/
import Derived.Test.YtebkdpcgbnlfcaaToldA
import Derived.KernelRfl
namespace Go.AI
open Go
set_option maxRecDepth 100000
set_option linter.unusedVariables false
set_option linter.unusedSimpArgs false
/-! garrison/garrisonlaw09.ArenaRuns -/
namespace law09_ArenaRuns
abbrev sh : List Sh := [.one (.bool)]
noncomputable abbrev R (a0 : Int) (a1 : Int) (a2 : List (List DV)) : Option (Bool × Unit) := retω cfg sh 4 [(AV.d (DV.v (Value.int IntKind.i64 a0))), (AV.d (DV.v (Value.int IntKind.i64 a1))), (AV.d (DV.lst 12 a2))]
end law09_ArenaRuns
/-! garrison/arena.New -/
namespace arena_New
abbrev sh : List Sh := [.agg [.lst 8, .lst 1], .one (.int .i64)]
noncomputable abbrev R (a0 : Int) (a1 : Int) : Option ((List (List DV) × (List (List DV) × Unit)) × (Int × Unit)) := retω cfg sh 14 [(AV.d (DV.v (Value.int IntKind.i64 a0))), (AV.d (DV.v (Value.int IntKind.i64 a1)))]
end arena_New
/-! garrison/garrisonref09.New -/
namespace ref09_New
abbrev sh : List Sh := [.agg [.lst 8, .lst 1], .one (.int .i64)]
noncomputable abbrev R (a0 : Int) (a1 : Int) : Option ((List (List DV) × (List (List DV) × Unit)) × (Int × Unit)) := retω cfg sh 16 [(AV.d (DV.v (Value.int IntKind.i64 a0))), (AV.d (DV.v (Value.int IntKind.i64 a1)))]
end ref09_New
/-! garrison/garrisonlaw09.ArenaRuns -/
namespace law09_ArenaRuns
def lv : Live := [((9, 1048576), [2, 7, 9, 11], [257, 449])]
abbrev H9 (x2 : List (List DV)) (x11 : Int) (b257 : List (List DV)) (b257_1 : List (List DV)) (b449 : List (List DV)) (b449_1 : List (List DV)) (c : (Bool × Unit)) : Prop := HeadAns cfg 4 sh lv (bd cfg 4 [1, 1, 1, 1, 1, 0, 1, 0, 0]) 1048576 [.inBlock 0, .code (bd cfg 4 [1, 1, 1, 1, 1, 1])]
  [(AV.d (DV.lst 12 x2)), (AV.ptr 257 0 0 0), (AV.ptr 449 0 0 0), (AV.d (DV.v (Value.int IntKind.i64 x11)))] [(Option.some (VBlk.cell 2 0 [(AV.d (DV.lst 8 b257)), (AV.d (DV.lst 1 b257_1))])), (Option.some (VBlk.cell 2 0 [(AV.d (DV.lst 8 b449)), (AV.d (DV.lst 1 b449_1))]))] 1048576 c
theorem start (a0 : Int) (a1 : Int) (a2 : List (List DV)) (c : (Bool × Unit)) (h :
    cond (decide (((((a2).length : Nat) : Int) > (100 : Int)))) (
      optAll (law09_live.R) fun (c0 : (Bool × Unit)) =>
      c = ((c0).1, ())) (
      optAll (arena_New.R a0 a1) fun (c1 : ((List (List DV) × (List (List DV) × Unit)) × (Int × Unit))) =>
      optAll (law09_num.R ((c1).2).1) fun (c2 : (Int × Unit)) =>
      cond (((c2).1 != (0 : Int))) (
        cond (decide ((a0 < (1 : Int)))) (
          optAll (law09_live.R) fun (c3 : (Bool × Unit)) =>
          c = ((c3).1, ())) (
          cond (decide ((a0 > (64 : Int)))) (
            optAll (law09_live.R) fun (c4 : (Bool × Unit)) =>
            c = ((c4).1, ())) (
            cond (decide ((a1 < (1 : Int)))) (
              optAll (law09_live.R) fun (c5 : (Bool × Unit)) =>
              c = ((c5).1, ())) (
              cond (decide ((a1 > (64 : Int)))) (
                optAll (law09_live.R) fun (c6 : (Bool × Unit)) =>
                c = ((c6).1, ())) (
                c = (false, ())))))) (
        optAll (ref09_New.R a0 a1) fun (c7 : ((List (List DV) × (List (List DV) × Unit)) × (Int × Unit))) =>
        H9 a2 (0 : Int) ((c1).1).1 (((c1).1).2).1 ((c7).1).1 (((c7).1).2).1 c))) : R a0 a1 a2 = some c := start_rule (n := 400) (lv := lv) (noSum_ok _) (by kernel_rfl) h
theorem H9_step (x2 : List (List DV)) (x11 : Int) (b257 : List (List DV)) (b257_1 : List (List DV)) (b449 : List (List DV)) (b449_1 : List (List DV)) (c : (Bool × Unit)) (h :
    cond (decide ((x11 < (((x2).length : Nat) : Int)))) (
      needs ((0 : Int) ≤ x11) (
      optAll ((x2)[(Int.toNat x11)]?) fun (r8 : List DV) =>
      optAll ((dInt IntKind.i64 r8 0)) fun (z9 : Int) =>
      optAll ((dInt IntKind.i64 r8 1)) fun (z10 : Int) =>
      optAll ((dInt IntKind.i64 r8 2)) fun (z11 : Int) =>
      optAll ((dInt IntKind.i64 r8 3)) fun (z12 : Int) =>
      optAll ((dInt IntKind.i64 r8 4)) fun (z13 : Int) =>
      optAll ((dInt IntKind.i64 r8 5)) fun (z14 : Int) =>
      optAll ((dInt IntKind.i64 r8 6)) fun (z15 : Int) =>
      optAll ((dInt IntKind.i64 r8 7)) fun (z16 : Int) =>
      optAll ((dInt IntKind.i64 r8 8)) fun (z17 : Int) =>
      optAll ((dInt IntKind.i64 r8 9)) fun (z18 : Int) =>
      optAll ((dInt IntKind.i64 r8 10)) fun (z19 : Int) =>
      optAll ((dInt IntKind.i64 r8 11)) fun (z20 : Int) =>
      optAll (law09_does.R b257 b257_1 z9 z10 z11 z12 z13 z14 z15 z16 z17 z18 z19 z20) fun (c21 : ((List (List DV) × (List (List DV) × Unit)) × (Int × (Int × Unit)))) =>
      needs ((0 : Int) ≤ x11) (
      optAll ((x2)[(Int.toNat x11)]?) fun (r22 : List DV) =>
      optAll ((dInt IntKind.i64 r22 0)) fun (z23 : Int) =>
      optAll ((dInt IntKind.i64 r22 1)) fun (z24 : Int) =>
      optAll ((dInt IntKind.i64 r22 2)) fun (z25 : Int) =>
      optAll ((dInt IntKind.i64 r22 3)) fun (z26 : Int) =>
      optAll ((dInt IntKind.i64 r22 4)) fun (z27 : Int) =>
      optAll ((dInt IntKind.i64 r22 5)) fun (z28 : Int) =>
      optAll ((dInt IntKind.i64 r22 6)) fun (z29 : Int) =>
      optAll ((dInt IntKind.i64 r22 7)) fun (z30 : Int) =>
      optAll ((dInt IntKind.i64 r22 8)) fun (z31 : Int) =>
      optAll ((dInt IntKind.i64 r22 9)) fun (z32 : Int) =>
      optAll ((dInt IntKind.i64 r22 10)) fun (z33 : Int) =>
      optAll ((dInt IntKind.i64 r22 11)) fun (z34 : Int) =>
      optAll (law09_model.R b449 b449_1 z23 z24 z25 z26 z27 z28 z29 z30 z31 z32 z33 z34) fun (c35 : ((List (List DV) × (List (List DV) × Unit)) × (Int × (Int × Unit)))) =>
      optAll (ref09_Same.R ((c21).1).1 (((c21).1).2).1 ((c35).1).1 (((c35).1).2).1) fun (c36 : (Bool × Unit)) =>
      cond ((!(c36).1)) (
        c = (false, ())) (
        cond ((((c21).2).1 != ((c35).2).1)) (
          c = (false, ())) (
          cond (((((c21).2).2).1 != (((c35).2).2).1)) (
            c = (false, ())) (
            H9 x2 (IntKind.i64.wrap (x11 + (1 : Int))) ((c21).1).1 (((c21).1).2).1 ((c35).1).1 (((c35).1).2).1 c)))))) (
      optAll (law09_live.R) fun (c37 : (Bool × Unit)) =>
      c = ((c37).1, ()))) : H9 x2 x11 b257 b257_1 b449 b449_1 c := head_rule (n := 400) (noSum_ok _) (by kernel_rfl) h
end law09_ArenaRuns
/-! garrison/arena.New -/
namespace arena_New
def lv : Live := []
theorem start (a0 : Int) (a1 : Int) (c : ((List (List DV) × (List (List DV) × Unit)) × (Int × Unit))) (h :
    cond (decide ((a0 < (1 : Int)))) (
      c = (((([]).take (0)), ((([]).take (0)), ())), ((2 : Int), ()))) (
      cond (decide ((a0 > (64 : Int)))) (
        c = (((([]).take (0)), ((([]).take (0)), ())), ((2 : Int), ()))) (
        cond (decide ((a1 < (1 : Int)))) (
          c = (((([]).take (0)), ((([]).take (0)), ())), ((2 : Int), ()))) (
          cond (decide ((a1 > (64 : Int)))) (
            c = (((([]).take (0)), ((([]).take (0)), ())), ((2 : Int), ()))) (
            False))))) : R a0 a1 = some c := start_rule (n := 400) (lv := lv) (noSum_ok _) (by kernel_rfl) h
end arena_New
/-! garrison/garrisonref09.New -/
namespace ref09_New
def lv : Live := [((6, 1048576), [0, 1, 4, 6, 7], [61, 62, 63, 333, 349, 350, 8]), ((10, 2097152), [0, 1, 4, 6, 7, 8, 9], [61, 62, 63, 333, 349, 350, 8]), ((15, 2097152), [0, 4, 6, 10], [61, 62, 63, 333, 349, 350, 8]), ((6, 1048576), [0, 1, 4, 6, 7], [61, 62, 63, 333, 349, 350, 8]), ((15, 2097152), [0, 4, 6, 10], [61, 62, 63, 333, 349, 350, 8])]
abbrev H6 (x0 : Int) (x1 : Int) (x7 : Int) (b62 : List (List DV)) (b63 : List (List DV)) (b349 : List (List DV)) (b350 : List (List DV)) (c : ((List (List DV) × (List (List DV) × Unit)) × (Int × Unit))) : Prop := HeadAns cfg 16 sh lv (bd cfg 16 [1, 1, 1, 0, 1, 0, 0]) 1048576 [.inBlock 0, .code (bd cfg 16 [1, 1, 1, 1])]
  [(AV.d (DV.v (Value.int IntKind.i64 x0))), (AV.d (DV.v (Value.int IntKind.i64 x1))), (AV.ptr 61 0 0 0), (AV.ptr 333 0 0 0), (AV.d (DV.v (Value.int IntKind.i64 x7)))] [(Option.some (VBlk.cell 2 0 [(AV.ref 62 0 0 (List.length b62)), (AV.ref 63 0 0 (List.length b63))])), (Option.some (VBlk.drow 8 0 b62)), (Option.some (VBlk.drow 1 0 b63)), (Option.some (VBlk.cell 2 0 [(AV.ref 349 0 0 (List.length b349)), (AV.ref 350 0 0 (List.length b350))])), (Option.some (VBlk.drow 8 0 b349)), (Option.some (VBlk.drow 1 0 b350)), (Option.none)] 1048576 c
abbrev H10 (x0 : Int) (x1 : Int) (x7 : Int) (b8 : List (List DV)) (x9 : Int) (b62 : List (List DV)) (b63 : List (List DV)) (b349 : List (List DV)) (b350 : List (List DV)) (c : ((List (List DV) × (List (List DV) × Unit)) × (Int × Unit))) : Prop := HeadAns cfg 16 sh lv (bd cfg 16 [1, 1, 1, 0, 1, 0, 0, 1, 0, 0, 1, 0, 1, 0, 0]) 2097152 [.inBlock 2, .code (bd cfg 16 [1, 1, 1, 0, 1, 0, 0, 1, 0, 0, 1, 1]), .inBlock 1, .code (bd cfg 16 [1, 1, 1, 0, 1, 0, 0, 1, 1]), .inLoop (bd cfg 16 [1, 1, 1, 0, 1, 0, 0]) 1048576, .inBlock 0, .code (bd cfg 16 [1, 1, 1, 1])]
  [(AV.d (DV.v (Value.int IntKind.i64 x0))), (AV.d (DV.v (Value.int IntKind.i64 x1))), (AV.ptr 61 0 0 0), (AV.ptr 333 0 0 0), (AV.d (DV.v (Value.int IntKind.i64 x7))), (AV.ref 8 0 0 (List.length b8)), (AV.d (DV.v (Value.int IntKind.i64 x9)))] [(Option.some (VBlk.cell 2 0 [(AV.ref 62 0 0 (List.length b62)), (AV.ref 63 0 0 (List.length b63))])), (Option.some (VBlk.drow 8 0 b62)), (Option.some (VBlk.drow 1 0 b63)), (Option.some (VBlk.cell 2 0 [(AV.ref 349 0 0 (List.length b349)), (AV.ref 350 0 0 (List.length b350))])), (Option.some (VBlk.drow 8 0 b349)), (Option.some (VBlk.drow 1 0 b350)), (Option.some (VBlk.drow 1 0 b8))] 2097152 c
abbrev H15 (x0 : Int) (x10 : Int) (b62 : List (List DV)) (b63 : List (List DV)) (b349 : List (List DV)) (b350 : List (List DV)) (c : ((List (List DV) × (List (List DV) × Unit)) × (Int × Unit))) : Prop := HeadAns cfg 16 sh lv (bd cfg 16 [1, 1, 1, 1, 0, 1, 0, 0]) 2097152 [.inBlock 4, .code (bd cfg 16 [1, 1, 1, 1, 1])]
  [(AV.d (DV.v (Value.int IntKind.i64 x0))), (AV.ptr 61 0 0 0), (AV.ptr 333 0 0 0), (AV.d (DV.v (Value.int IntKind.i64 x10)))] [(Option.some (VBlk.cell 2 0 [(AV.ref 62 0 0 (List.length b62)), (AV.ref 63 0 0 (List.length b63))])), (Option.some (VBlk.drow 8 0 b62)), (Option.some (VBlk.drow 1 0 b63)), (Option.some (VBlk.cell 2 0 [(AV.ref 349 0 0 (List.length b349)), (AV.ref 350 0 0 (List.length b350))])), (Option.some (VBlk.drow 8 0 b349)), (Option.some (VBlk.drow 1 0 b350)), (Option.none)] 2097152 c
abbrev H6_1048576 (x0 : Int) (x1 : Int) (x7 : Int) (b62 : List (List DV)) (b63 : List (List DV)) (b349 : List (List DV)) (b350 : List (List DV)) (b8 : List (List DV)) (c : ((List (List DV) × (List (List DV) × Unit)) × (Int × Unit))) : Prop := HeadAns cfg 16 sh lv (bd cfg 16 [1, 1, 1, 0, 1, 0, 0]) 1048576 [.inBlock 0, .code (bd cfg 16 [1, 1, 1, 1])]
  [(AV.d (DV.v (Value.int IntKind.i64 x0))), (AV.d (DV.v (Value.int IntKind.i64 x1))), (AV.ptr 61 0 0 0), (AV.ptr 333 0 0 0), (AV.d (DV.v (Value.int IntKind.i64 x7)))] [(Option.some (VBlk.cell 2 0 [(AV.ref 62 0 0 (List.length b62)), (AV.ref 63 0 0 (List.length b63))])), (Option.some (VBlk.drow 8 0 b62)), (Option.some (VBlk.drow 1 0 b63)), (Option.some (VBlk.cell 2 0 [(AV.ref 349 0 0 (List.length b349)), (AV.ref 350 0 0 (List.length b350))])), (Option.some (VBlk.drow 8 0 b349)), (Option.some (VBlk.drow 1 0 b350)), (Option.some (VBlk.drow 1 0 b8))] 1048576 c
abbrev H15_2097152 (x0 : Int) (x10 : Int) (b62 : List (List DV)) (b63 : List (List DV)) (b349 : List (List DV)) (b350 : List (List DV)) (b8 : List (List DV)) (c : ((List (List DV) × (List (List DV) × Unit)) × (Int × Unit))) : Prop := HeadAns cfg 16 sh lv (bd cfg 16 [1, 1, 1, 1, 0, 1, 0, 0]) 2097152 [.inBlock 4, .code (bd cfg 16 [1, 1, 1, 1, 1])]
  [(AV.d (DV.v (Value.int IntKind.i64 x0))), (AV.ptr 61 0 0 0), (AV.ptr 333 0 0 0), (AV.d (DV.v (Value.int IntKind.i64 x10)))] [(Option.some (VBlk.cell 2 0 [(AV.ref 62 0 0 (List.length b62)), (AV.ref 63 0 0 (List.length b63))])), (Option.some (VBlk.drow 8 0 b62)), (Option.some (VBlk.drow 1 0 b63)), (Option.some (VBlk.cell 2 0 [(AV.ref 349 0 0 (List.length b349)), (AV.ref 350 0 0 (List.length b350))])), (Option.some (VBlk.drow 8 0 b349)), (Option.some (VBlk.drow 1 0 b350)), (Option.some (VBlk.drow 1 0 b8))] 2097152 c
theorem start (a0 : Int) (a1 : Int) (c : ((List (List DV) × (List (List DV) × Unit)) × (Int × Unit))) (h :
    cond (decide ((a0 < (1 : Int)))) (
      c = (((([]).take (0)), ((([]).take (0)), ())), ((2 : Int), ()))) (
      cond (decide ((a0 > (64 : Int)))) (
        c = (((([]).take (0)), ((([]).take (0)), ())), ((2 : Int), ()))) (
        cond (decide ((a1 < (1 : Int)))) (
          c = (((([]).take (0)), ((([]).take (0)), ())), ((2 : Int), ()))) (
          cond (decide ((a1 > (64 : Int)))) (
            c = (((([]).take (0)), ((([]).take (0)), ())), ((2 : Int), ()))) (
            H6 a0 a1 (0 : Int) [] [] [] [] c))))) : R a0 a1 = some c := start_rule (n := 400) (lv := lv) (noSum_ok _) (by kernel_rfl) h
theorem H6_step (x0 : Int) (x1 : Int) (x7 : Int) (b62 : List (List DV)) (b63 : List (List DV)) (b349 : List (List DV)) (b350 : List (List DV)) (c : ((List (List DV) × (List (List DV) × Unit)) × (Int × Unit))) (h :
    cond (decide ((x7 < x1))) (
      H10 x0 x1 x7 [] x7 b62 b63 b349 b350 c) (
      H15 x0 (0 : Int) b62 b63 b349 b350 c)) : H6 x0 x1 x7 b62 b63 b349 b350 c := head_rule (n := 400) (noSum_ok _) (by kernel_rfl) h
theorem H10_step (x0 : Int) (x1 : Int) (x7 : Int) (b8 : List (List DV)) (x9 : Int) (b62 : List (List DV)) (b63 : List (List DV)) (b349 : List (List DV)) (b350 : List (List DV)) (c : ((List (List DV) × (List (List DV) × Unit)) × (Int × Unit))) (h :
    cond (decide ((x9 < x0))) (
      needs ((b8).length = (b8).length) (
      needs (((((b8 ++ (([[(DV.v (Value.int IntKind.i64 x9))]]).take (1)))).length * 8) ≤ 140737488355328) ∧ ((((b8 ++ (([[(DV.v (Value.int IntKind.i64 x9))]]).take (1)))).length * 1) ≤ 140737488355328)) (
      H10 x0 x1 x7 (b8 ++ (([[(DV.v (Value.int IntKind.i64 x9))]]).take (1))) (IntKind.i64.wrap (x9 + x1)) b62 b63 b349 b350 c))) (
      needs ((b350).length = (b350).length) (
      needs (((((b350 ++ (([[(DV.lst 1 ((b8).take ((b8).length)))]]).take (1)))).length * 24) ≤ 140737488355328) ∧ ((((b350 ++ (([[(DV.lst 1 ((b8).take ((b8).length)))]]).take (1)))).length * 1) ≤ 140737488355328)) (
      H6_1048576 x0 x1 (IntKind.i64.wrap (x7 + (1 : Int))) b62 b63 b349 (b350 ++ (([[(DV.lst 1 ((b8).take ((b8).length)))]]).take (1))) [] c)))) : H10 x0 x1 x7 b8 x9 b62 b63 b349 b350 c := head_rule (n := 400) (noSum_ok _) (by kernel_rfl) h
theorem H15_step (x0 : Int) (x10 : Int) (b62 : List (List DV)) (b63 : List (List DV)) (b349 : List (List DV)) (b350 : List (List DV)) (c : ((List (List DV) × (List (List DV) × Unit)) × (Int × Unit))) (h :
    cond (decide ((x10 < x0))) (
      needs ((b349).length = (b349).length) (
      needs (((((b349 ++ (([[(DV.v (Value.int IntKind.i64 (0 : Int))), (DV.v (Value.int IntKind.i64 (0 : Int))), (DV.v (Value.int IntKind.i64 (0 : Int))), (DV.v (Value.int IntKind.i64 (0 : Int))), (DV.v (Value.int IntKind.i64 (0 : Int))), (DV.v (Value.int IntKind.i64 (0 : Int))), (DV.v (Value.int IntKind.i64 (-1 : Int))), (DV.v (Value.int IntKind.i64 (0 : Int)))]]).take (1)))).length * 64) ≤ 140737488355328) ∧ ((((b349 ++ (([[(DV.v (Value.int IntKind.i64 (0 : Int))), (DV.v (Value.int IntKind.i64 (0 : Int))), (DV.v (Value.int IntKind.i64 (0 : Int))), (DV.v (Value.int IntKind.i64 (0 : Int))), (DV.v (Value.int IntKind.i64 (0 : Int))), (DV.v (Value.int IntKind.i64 (0 : Int))), (DV.v (Value.int IntKind.i64 (-1 : Int))), (DV.v (Value.int IntKind.i64 (0 : Int)))]]).take (1)))).length * 8) ≤ 140737488355328)) (
      H15 x0 (IntKind.i64.wrap (x10 + (1 : Int))) b62 b63 (b349 ++ (([[(DV.v (Value.int IntKind.i64 (0 : Int))), (DV.v (Value.int IntKind.i64 (0 : Int))), (DV.v (Value.int IntKind.i64 (0 : Int))), (DV.v (Value.int IntKind.i64 (0 : Int))), (DV.v (Value.int IntKind.i64 (0 : Int))), (DV.v (Value.int IntKind.i64 (0 : Int))), (DV.v (Value.int IntKind.i64 (-1 : Int))), (DV.v (Value.int IntKind.i64 (0 : Int)))]]).take (1))) b350 c))) (
      c = ((((b349).take ((b349).length)), (((b350).take ((b350).length)), ())), ((0 : Int), ())))) : H15 x0 x10 b62 b63 b349 b350 c := head_rule (n := 400) (noSum_ok _) (by kernel_rfl) h
theorem H6_1048576_step (x0 : Int) (x1 : Int) (x7 : Int) (b62 : List (List DV)) (b63 : List (List DV)) (b349 : List (List DV)) (b350 : List (List DV)) (b8 : List (List DV)) (c : ((List (List DV) × (List (List DV) × Unit)) × (Int × Unit))) (h :
    cond (decide ((x7 < x1))) (
      H10 x0 x1 x7 [] x7 b62 b63 b349 b350 c) (
      H15_2097152 x0 (0 : Int) b62 b63 b349 b350 b8 c)) : H6_1048576 x0 x1 x7 b62 b63 b349 b350 b8 c := head_rule (n := 400) (noSum_ok _) (by kernel_rfl) h
theorem H15_2097152_step (x0 : Int) (x10 : Int) (b62 : List (List DV)) (b63 : List (List DV)) (b349 : List (List DV)) (b350 : List (List DV)) (b8 : List (List DV)) (c : ((List (List DV) × (List (List DV) × Unit)) × (Int × Unit))) (h :
    cond (decide ((x10 < x0))) (
      needs ((b349).length = (b349).length) (
      needs (((((b349 ++ (([[(DV.v (Value.int IntKind.i64 (0 : Int))), (DV.v (Value.int IntKind.i64 (0 : Int))), (DV.v (Value.int IntKind.i64 (0 : Int))), (DV.v (Value.int IntKind.i64 (0 : Int))), (DV.v (Value.int IntKind.i64 (0 : Int))), (DV.v (Value.int IntKind.i64 (0 : Int))), (DV.v (Value.int IntKind.i64 (-1 : Int))), (DV.v (Value.int IntKind.i64 (0 : Int)))]]).take (1)))).length * 64) ≤ 140737488355328) ∧ ((((b349 ++ (([[(DV.v (Value.int IntKind.i64 (0 : Int))), (DV.v (Value.int IntKind.i64 (0 : Int))), (DV.v (Value.int IntKind.i64 (0 : Int))), (DV.v (Value.int IntKind.i64 (0 : Int))), (DV.v (Value.int IntKind.i64 (0 : Int))), (DV.v (Value.int IntKind.i64 (0 : Int))), (DV.v (Value.int IntKind.i64 (-1 : Int))), (DV.v (Value.int IntKind.i64 (0 : Int)))]]).take (1)))).length * 8) ≤ 140737488355328)) (
      H15_2097152 x0 (IntKind.i64.wrap (x10 + (1 : Int))) b62 b63 (b349 ++ (([[(DV.v (Value.int IntKind.i64 (0 : Int))), (DV.v (Value.int IntKind.i64 (0 : Int))), (DV.v (Value.int IntKind.i64 (0 : Int))), (DV.v (Value.int IntKind.i64 (0 : Int))), (DV.v (Value.int IntKind.i64 (0 : Int))), (DV.v (Value.int IntKind.i64 (0 : Int))), (DV.v (Value.int IntKind.i64 (-1 : Int))), (DV.v (Value.int IntKind.i64 (0 : Int)))]]).take (1))) b350 b8 c))) (
      c = ((((b349).take ((b349).length)), (((b350).take ((b350).length)), ())), ((0 : Int), ())))) : H15_2097152 x0 x10 b62 b63 b349 b350 b8 c := head_rule (n := 400) (noSum_ok _) (by kernel_rfl) h
end ref09_New
end Go.AI
