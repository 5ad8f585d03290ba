/-
  Own work: printed by Tell, a program of this work: what each function's body does over symbols.
-/
import Derived.Test.YtjjchnnnchccgaaToldT
import Derived.KernelRfl
namespace Go.AI
open Go
set_option maxRecDepth 100000
set_option linter.unusedVariables false
set_option linter.unusedSimpArgs false
/-! garrison/garrisonlaw14.GhostTree -/
namespace law14_GhostTree
abbrev sh : List Sh := [.one (.bool)]
noncomputable abbrev R (a0 : List (List DV)) (a1_0 : Int) (a1_1 : Int) (a2_0 : Int) (a2_1 : Int) : Option (Bool × Unit) := retω cfg sh 16 [(AV.d (DV.lst 5 a0)), (AV.agg [(AV.d (DV.v (Value.int IntKind.i64 a1_0))), (AV.d (DV.v (Value.int IntKind.i64 a1_1)))]), (AV.agg [(AV.d (DV.v (Value.int IntKind.i64 a2_0))), (AV.d (DV.v (Value.int IntKind.i64 a2_1)))])]
end law14_GhostTree
/-! garrison/garrisonlaw14.live -/
namespace law14_live
abbrev sh : List Sh := [.one (.bool)]
noncomputable abbrev R : Option (Bool × Unit) := retω cfg sh 18 []
end law14_live
/-! garrison/garrisonlaw14.num -/
namespace law14_num
abbrev sh : List Sh := [.one (.int .i64)]
noncomputable abbrev R (a0 : Int) : Option (Int × Unit) := retω cfg sh 22 [(AV.d (DV.v (Value.int IntKind.i64 a0)))]
end law14_num
/-! garrison/ghost.Run -/
namespace ghost_Run
abbrev sh : List Sh := [.agg [.lst 2, .lst 1, .lst 1], .one (.int .i64)]
noncomputable abbrev R (a0 : List (List DV)) : Option ((List (List DV) × (List (List DV) × (List (List DV) × Unit))) × (Int × Unit)) := retω cfg sh 26 [(AV.d (DV.lst 5 a0))]
end ghost_Run
/-! garrison/ghost.Who -/
namespace ghost_Who
abbrev sh : List Sh := [.one (.int .i64), .one (.bool)]
noncomputable abbrev R (a0_0 : List (List DV)) (a0_1 : List (List DV)) (a0_2 : List (List DV)) (a1_0 : Int) (a1_1 : Int) : Option (Int × (Bool × Unit)) := retω cfg sh 28 [(AV.agg [(AV.d (DV.lst 2 a0_0)), (AV.d (DV.lst 1 a0_1)), (AV.d (DV.lst 1 a0_2))]), (AV.agg [(AV.d (DV.v (Value.int IntKind.i64 a1_0))), (AV.d (DV.v (Value.int IntKind.i64 a1_1)))])]
end ghost_Who
/-! garrison/ghost.Descends -/
namespace ghost_Descends
abbrev sh : List Sh := [.one (.bool)]
noncomputable abbrev R (a0_0 : List (List DV)) (a0_1 : List (List DV)) (a0_2 : List (List DV)) (a1_0 : Int) (a1_1 : Int) (a2_0 : Int) (a2_1 : Int) : Option (Bool × Unit) := retω cfg sh 29 [(AV.agg [(AV.d (DV.lst 2 a0_0)), (AV.d (DV.lst 1 a0_1)), (AV.d (DV.lst 1 a0_2))]), (AV.agg [(AV.d (DV.v (Value.int IntKind.i64 a1_0))), (AV.d (DV.v (Value.int IntKind.i64 a1_1)))]), (AV.agg [(AV.d (DV.v (Value.int IntKind.i64 a2_0))), (AV.d (DV.v (Value.int IntKind.i64 a2_1)))])]
end ghost_Descends
/-! garrison/ghost.Add -/
namespace ghost_Add
abbrev sh : List Sh := [.agg [.lst 2, .lst 1, .lst 1], .one (.int .i64)]
noncomputable abbrev R (a0_0 : List (List DV)) (a0_1 : List (List DV)) (a0_2 : List (List DV)) (a1_0 : Int) (a1_1 : Int) (a1_2 : Int) (a1_3 : Int) (a1_4 : Int) : Option ((List (List DV) × (List (List DV) × (List (List DV) × Unit))) × (Int × Unit)) := retω cfg sh 19 [(AV.agg [(AV.d (DV.lst 2 a0_0)), (AV.d (DV.lst 1 a0_1)), (AV.d (DV.lst 1 a0_2))]), (AV.agg [(AV.d (DV.v (Value.int IntKind.i64 a1_0))), (AV.d (DV.v (Value.int IntKind.i64 a1_1))), (AV.d (DV.v (Value.int IntKind.i64 a1_2))), (AV.d (DV.v (Value.int IntKind.i64 a1_3))), (AV.d (DV.v (Value.int IntKind.i64 a1_4)))])]
end ghost_Add
/-! garrison/ghost.Above -/
namespace ghost_Above
abbrev sh : List Sh := [.one (.lst 1)]
noncomputable abbrev R (a0_0 : List (List DV)) (a0_1 : List (List DV)) (a0_2 : List (List DV)) (a1 : Int) : Option (List (List DV) × Unit) := retω cfg sh 30 [(AV.agg [(AV.d (DV.lst 2 a0_0)), (AV.d (DV.lst 1 a0_1)), (AV.d (DV.lst 1 a0_2))]), (AV.d (DV.v (Value.int IntKind.i64 a1)))]
end ghost_Above
/-! slices.Contains[[]int,int] -/
namespace slices_Contains_int_int
abbrev sh : List Sh := [.one (.bool)]
noncomputable abbrev R (a0 : List (List DV)) (a1 : Int) : Option (Bool × Unit) := retω cfg sh 68 [(AV.d (DV.lst 1 a0)), (AV.d (DV.v (Value.int IntKind.i64 a1)))]
end slices_Contains_int_int
/-! garrison/ghost.isBirth -/
namespace ghost_isBirth
abbrev sh : List Sh := [.one (.bool)]
noncomputable abbrev R (a0_0 : Int) (a0_1 : Int) (a0_2 : Int) (a0_3 : Int) (a0_4 : Int) : Option (Bool × Unit) := retω cfg sh 56 [(AV.agg [(AV.d (DV.v (Value.int IntKind.i64 a0_0))), (AV.d (DV.v (Value.int IntKind.i64 a0_1))), (AV.d (DV.v (Value.int IntKind.i64 a0_2))), (AV.d (DV.v (Value.int IntKind.i64 a0_3))), (AV.d (DV.v (Value.int IntKind.i64 a0_4)))])]
end ghost_isBirth
/-! garrison/ghost.Check -/
namespace ghost_Check
abbrev sh : List Sh := [.one (.int .i64)]
noncomputable abbrev R (a0_0 : List (List DV)) (a0_1 : List (List DV)) (a0_2 : List (List DV)) : Option (Int × Unit) := retω cfg sh 23 [(AV.agg [(AV.d (DV.lst 2 a0_0)), (AV.d (DV.lst 1 a0_1)), (AV.d (DV.lst 1 a0_2))])]
end ghost_Check
/-! garrison/ghost.born -/
namespace ghost_born
abbrev sh : List Sh := [.agg [.lst 2, .lst 1, .lst 1], .one (.int .i64)]
noncomputable abbrev R (a0_0 : List (List DV)) (a0_1 : List (List DV)) (a0_2 : List (List DV)) (a1_0 : Int) (a1_1 : Int) (a2 : Int) : Option ((List (List DV) × (List (List DV) × (List (List DV) × Unit))) × (Int × Unit)) := retω cfg sh 62 [(AV.agg [(AV.d (DV.lst 2 a0_0)), (AV.d (DV.lst 1 a0_1)), (AV.d (DV.lst 1 a0_2))]), (AV.agg [(AV.d (DV.v (Value.int IntKind.i64 a1_0))), (AV.d (DV.v (Value.int IntKind.i64 a1_1)))]), (AV.d (DV.v (Value.int IntKind.i64 a2)))]
end ghost_born
/-! slices.Index[[]int,int] -/
namespace slices_Index_int_int
abbrev sh : List Sh := [.one (.int .i64)]
noncomputable abbrev R (a0 : List (List DV)) (a1 : Int) : Option (Int × Unit) := retω cfg sh 86 [(AV.d (DV.lst 1 a0)), (AV.d (DV.v (Value.int IntKind.i64 a1)))]
end slices_Index_int_int
/-! garrison/garrisonlaw14.live -/
namespace law14_live
theorem closed : R = some (true, ()) := ret_closed (n := 4000) (v := .d (.v (.bool true))) (by kernel_rfl) (by kernel_rfl)
end law14_live
/-! garrison/garrisonlaw14.num -/
namespace law14_num
def lv : Live := []
theorem start (a0 : Int) (c : (Int × Unit)) (h :
    c = (a0, ())) : R a0 = some c := start_rule (n := 400) (lv := lv) (noSum_ok _) (by kernel_rfl) h
end law14_num
/-! garrison/ghost.Run -/
namespace ghost_Run
def lv : Live := [((3, 1048576), [2, 3, 8, 9, 10], [28])]
abbrev H3 (x3 : Int) (x8 : List (List DV)) (x9 : Int) (x10 : Int) (b28 : List (List DV)) (b28_1 : List (List DV)) (b28_2 : List (List DV)) (c : ((List (List DV) × (List (List DV) × (List (List DV) × Unit))) × (Int × Unit))) : Prop := HeadAns cfg 26 sh lv (bd cfg 26 [1, 0, 1, 0, 1, 0, 0]) 1048576 [.inBlock 0, .code (bd cfg 26 [1, 0, 1, 1]), .inScope (bd cfg 26 [1, 0])]
  [(AV.ptr 28 0 0 0), (AV.d (DV.v (Value.int IntKind.i64 x3))), (AV.d (DV.lst 5 x8)), (AV.d (DV.v (Value.int IntKind.i64 x9))), (AV.d (DV.v (Value.int IntKind.i64 x10)))] [(Option.some (VBlk.cell 3 0 [(AV.d (DV.lst 2 b28)), (AV.d (DV.lst 1 b28_1)), (AV.d (DV.lst 1 b28_2))]))] 1048576 c
theorem start (a0 : List (List DV)) (c : ((List (List DV) × (List (List DV) × (List (List DV) × Unit))) × (Int × Unit))) (h :
    H3 (0 : Int) a0 (((a0).length : Nat) : Int) (0 : Int) [] [] [] c) : R a0 = some c := start_rule (n := 400) (lv := lv) (noSum_ok _) (by kernel_rfl) h
theorem H3_step (x3 : Int) (x8 : List (List DV)) (x9 : Int) (x10 : Int) (b28 : List (List DV)) (b28_1 : List (List DV)) (b28_2 : List (List DV)) (c : ((List (List DV) × (List (List DV) × (List (List DV) × Unit))) × (Int × Unit))) (h :
    cond (decide ((x10 < x9))) (
      needs ((0 : Int) ≤ x10) (
      optAll ((x8)[(Int.toNat x10)]?) fun (r0 : List DV) =>
      optAll ((dInt IntKind.i64 r0 0)) fun (z1 : Int) =>
      optAll ((dInt IntKind.i64 r0 1)) fun (z2 : Int) =>
      optAll ((dInt IntKind.i64 r0 2)) fun (z3 : Int) =>
      optAll ((dInt IntKind.i64 r0 3)) fun (z4 : Int) =>
      optAll ((dInt IntKind.i64 r0 4)) fun (z5 : Int) =>
      optAll (ghost_Add.R b28 b28_1 b28_2 z1 z2 z3 z4 z5) fun (c6 : ((List (List DV) × (List (List DV) × (List (List DV) × Unit))) × (Int × Unit))) =>
      cond ((((c6).2).1 != (0 : Int))) (
        H3 (IntKind.i64.wrap (x3 + (1 : Int))) x8 x9 (IntKind.i64.wrap (x10 + (1 : Int))) b28 b28_1 b28_2 c) (
        H3 x3 x8 x9 (IntKind.i64.wrap (x10 + (1 : Int))) ((c6).1).1 (((c6).1).2).1 ((((c6).1).2).2).1 c))) (
      c = ((b28, (b28_1, (b28_2, ()))), (x3, ())))) : H3 x3 x8 x9 x10 b28 b28_1 b28_2 c := head_rule (n := 400) (noSum_ok _) (by kernel_rfl) h
end ghost_Run
/-! garrison/ghost.Who -/
namespace ghost_Who
def lv : Live := []
theorem start (a0_0 : List (List DV)) (a0_1 : List (List DV)) (a0_2 : List (List DV)) (a1_0 : Int) (a1_1 : Int) (c : (Int × (Bool × Unit))) (h :
    optAll (slices_Index_api_Key_api_Key.R a0_0 a1_0 a1_1) fun (c0 : (Int × Unit)) =>
    cond (decide (((c0).1 < (0 : Int)))) (
      c = ((0 : Int), (false, ()))) (
      cond (decide (((c0).1 ≥ (((a0_1).length : Nat) : Int)))) (
        c = ((0 : Int), (false, ()))) (
        needs ((0 : Int) ≤ (c0).1) (
        optAll ((a0_1)[(Int.toNat (c0).1)]?) fun (r1 : List DV) =>
        optAll ((dInt IntKind.i64 r1 0)) fun (z2 : Int) =>
        c = (z2, (true, ())))))) : R a0_0 a0_1 a0_2 a1_0 a1_1 = some c := start_rule (n := 400) (lv := lv) (noSum_ok _) (by kernel_rfl) h
end ghost_Who
/-! garrison/ghost.Descends -/
namespace ghost_Descends
def lv : Live := []
theorem start (a0_0 : List (List DV)) (a0_1 : List (List DV)) (a0_2 : List (List DV)) (a1_0 : Int) (a1_1 : Int) (a2_0 : Int) (a2_1 : Int) (c : (Bool × Unit)) (h :
    optAll (ghost_Who.R a0_0 a0_1 a0_2 a1_0 a1_1) fun (c0 : (Int × (Bool × Unit))) =>
    optAll (ghost_Who.R a0_0 a0_1 a0_2 a2_0 a2_1) fun (c1 : (Int × (Bool × Unit))) =>
    cond (((c0).2).1) (
      cond (((c1).2).1) (
        optAll (ghost_Above.R a0_0 a0_1 a0_2 (c0).1) fun (c2 : (List (List DV) × Unit)) =>
        optAll (slices_Contains_int_int.R (c2).1 (c1).1) fun (c3 : (Bool × Unit)) =>
        c = ((c3).1, ())) (
        c = (false, ()))) (
      c = (false, ()))) : R a0_0 a0_1 a0_2 a1_0 a1_1 a2_0 a2_1 = some c := start_rule (n := 400) (lv := lv) (noSum_ok _) (by kernel_rfl) h
end ghost_Descends
/-! garrison/ghost.Above -/
namespace ghost_Above
def lv : Live := [((2, 1048576), [1, 2, 4], [33, 4])]
abbrev H2 (x1 : Int) (b4 : List (List DV)) (b33 : List (List DV)) (b33_1 : List (List DV)) (b33_2 : List (List DV)) (c : (List (List DV) × Unit)) : Prop := HeadAns cfg 30 sh lv (bd cfg 30 [1, 0, 0, 0]) 1048576 [.inBlock 0, .code (bd cfg 30 [1, 1])]
  [(AV.d (DV.v (Value.int IntKind.i64 x1))), (AV.ptr 33 0 0 0), (AV.ref 4 0 0 (List.length b4))] [(Option.some (VBlk.cell 3 0 [(AV.d (DV.lst 2 b33)), (AV.d (DV.lst 1 b33_1)), (AV.d (DV.lst 1 b33_2))])), (Option.some (VBlk.drow 1 0 b4))] 1048576 c
theorem start (a0_0 : List (List DV)) (a0_1 : List (List DV)) (a0_2 : List (List DV)) (a1 : Int) (c : (List (List DV) × Unit)) (h :
    H2 a1 [] a0_0 a0_1 a0_2 c) : R a0_0 a0_1 a0_2 a1 = some c := start_rule (n := 400) (lv := lv) (noSum_ok _) (by kernel_rfl) h
theorem H2_step (x1 : Int) (b4 : List (List DV)) (b33 : List (List DV)) (b33_1 : List (List DV)) (b33_2 : List (List DV)) (c : (List (List DV) × Unit)) (h :
    cond (decide ((x1 ≥ (0 : Int)))) (
      cond (decide ((x1 < (((b33_2).length : Nat) : Int)))) (
        needs ((0 : Int) ≤ x1) (
        optAll ((b33_2)[(Int.toNat x1)]?) fun (r0 : List DV) =>
        optAll ((dInt IntKind.i64 r0 0)) fun (z1 : Int) =>
        cond (decide ((z1 < (0 : Int)))) (
          c = (((b4).take ((b4).length)), ())) (
          cond (decide ((z1 ≥ x1))) (
            c = (((b4).take ((b4).length)), ())) (
            needs ((b4).length = (b4).length) (
            needs (((((b4 ++ (([[(DV.v (Value.int IntKind.i64 z1))]]).take (1)))).length * 8) ≤ 140737488355328) ∧ ((((b4 ++ (([[(DV.v (Value.int IntKind.i64 z1))]]).take (1)))).length * 1) ≤ 140737488355328)) (
            H2 z1 (b4 ++ (([[(DV.v (Value.int IntKind.i64 z1))]]).take (1))) b33 b33_1 b33_2 c)))))) (
        c = (((b4).take ((b4).length)), ()))) (
      c = (((b4).take ((b4).length)), ()))) : H2 x1 b4 b33 b33_1 b33_2 c := head_rule (n := 400) (noSum_ok _) (by kernel_rfl) h
end ghost_Above
/-! slices.Contains[[]int,int] -/
namespace slices_Contains_int_int
def lv : Live := []
theorem start (a0 : List (List DV)) (a1 : Int) (c : (Bool × Unit)) (h :
    optAll (slices_Index_int_int.R a0 a1) fun (c0 : (Int × Unit)) =>
    c = (decide (((c0).1 ≥ (0 : Int))), ())) : R a0 a1 = some c := start_rule (n := 400) (lv := lv) (noSum_ok _) (by kernel_rfl) h
end slices_Contains_int_int
/-! garrison/ghost.isBirth -/
namespace ghost_isBirth
def lv : Live := []
theorem start (a0_0 : Int) (a0_1 : Int) (a0_2 : Int) (a0_3 : Int) (a0_4 : Int) (c : (Bool × Unit)) (h :
    cond ((a0_0 == (2 : Int))) (
      optAll (order_Check.R a0_1 a0_2) fun (c0 : (Int × Unit)) =>
      cond (((c0).1 == (0 : Int))) (
        optAll (order_Check.R a0_3 a0_4) fun (c1 : (Int × Unit)) =>
        c = (((c1).1 == (0 : Int)), ())) (
        c = (false, ()))) (
      cond ((a0_0 == (3 : Int))) (
        optAll (order_Check.R a0_1 a0_2) fun (c2 : (Int × Unit)) =>
        cond (((c2).1 == (0 : Int))) (
          optAll (order_Check.R a0_3 a0_4) fun (c3 : (Int × Unit)) =>
          c = (((c3).1 == (0 : Int)), ())) (
          c = (false, ()))) (
        cond ((a0_0 == (1 : Int))) (
          optAll (order_Check.R a0_1 a0_2) fun (c4 : (Int × Unit)) =>
          c = (((c4).1 == (0 : Int)), ())) (
          cond ((a0_0 == (4 : Int))) (
            optAll (order_Check.R a0_1 a0_2) fun (c5 : (Int × Unit)) =>
            c = (((c5).1 == (0 : Int)), ())) (
            c = (false, ())))))) : R a0_0 a0_1 a0_2 a0_3 a0_4 = some c := start_rule (n := 400) (lv := lv) (noSum_ok _) (by kernel_rfl) h
end ghost_isBirth
/-! garrison/ghost.Check -/
namespace ghost_Check
def lv : Live := [((5, 1048576), [1, 24, 25, 26], [83]), ((12, 2097152), [1, 5, 6, 42, 43, 44], [83, 1048592, 1048608])]
abbrev H5 (x24 : List (List DV)) (x25 : Int) (x26 : Int) (b83 : List (List DV)) (b83_1 : List (List DV)) (b83_2 : List (List DV)) (c : (Int × Unit)) : Prop := HeadAns cfg 23 sh lv (bd cfg 23 [1, 1, 0, 1, 0, 0]) 1048576 [.inBlock 0, .code (bd cfg 23 [1, 1, 1])]
  [(AV.ptr 83 0 0 0), (AV.d (DV.lst 1 x24)), (AV.d (DV.v (Value.int IntKind.i64 x25))), (AV.d (DV.v (Value.int IntKind.i64 x26)))] [(Option.some (VBlk.cell 3 0 [(AV.d (DV.lst 2 b83)), (AV.d (DV.lst 1 b83_1)), (AV.d (DV.lst 1 b83_2))]))] 1048576 c
abbrev H12 (x42 : List (List DV)) (x43 : Int) (x44 : Int) (b83 : List (List DV)) (b83_1 : List (List DV)) (b83_2 : List (List DV)) (b1048592 : List (List DV × DV)) (b1048608 : List (List DV × DV)) (c : (Int × Unit)) : Prop := HeadAns cfg 23 sh lv (bd cfg 23 [1, 1, 1, 1, 0, 1, 0, 0]) 2097152 [.inBlock 2, .code (bd cfg 23 [1, 1, 1, 1, 1])]
  [(AV.ptr 83 0 0 0), (AV.map 1048592), (AV.map 1048608), (AV.d (DV.lst 2 x42)), (AV.d (DV.v (Value.int IntKind.i64 x43))), (AV.d (DV.v (Value.int IntKind.i64 x44)))] [(Option.some (VBlk.cell 3 0 [(AV.d (DV.lst 2 b83)), (AV.d (DV.lst 1 b83_1)), (AV.d (DV.lst 1 b83_2))])), (Option.some (VBlk.mp true b1048592)), (Option.some (VBlk.mp false b1048608))] 2097152 c
theorem start (a0_0 : List (List DV)) (a0_1 : List (List DV)) (a0_2 : List (List DV)) (c : (Int × Unit)) (h :
    cond (((((a0_0).length : Nat) : Int) != (((a0_1).length : Nat) : Int))) (
      c = ((2 : Int), ())) (
      cond (decide (((((a0_2).length : Nat) : Int) > (4096 : Int)))) (
        c = ((2 : Int), ())) (
        H5 a0_2 (((a0_2).length : Nat) : Int) (0 : Int) a0_0 a0_1 a0_2 c))) : R a0_0 a0_1 a0_2 = some c := start_rule (n := 400) (lv := lv) (noSum_ok _) (by kernel_rfl) h
theorem H5_step (x24 : List (List DV)) (x25 : Int) (x26 : Int) (b83 : List (List DV)) (b83_1 : List (List DV)) (b83_2 : List (List DV)) (c : (Int × Unit)) (h :
    cond (decide ((x26 < x25))) (
      needs ((0 : Int) ≤ x26) (
      optAll ((x24)[(Int.toNat x26)]?) fun (r0 : List DV) =>
      optAll ((dInt IntKind.i64 r0 0)) fun (z1 : Int) =>
      cond (decide ((z1 < (-1 : Int)))) (
        c = ((2 : Int), ())) (
        cond (decide ((z1 ≥ x26))) (
          c = ((2 : Int), ())) (
          H5 x24 x25 (IntKind.i64.wrap (x26 + (1 : Int))) b83 b83_1 b83_2 c)))) (
      H12 b83 (((b83).length : Nat) : Int) (0 : Int) b83 b83_1 b83_2 [] [] c)) : H5 x24 x25 x26 b83 b83_1 b83_2 c := head_rule (n := 400) (noSum_ok _) (by kernel_rfl) h
theorem H12_step (x42 : List (List DV)) (x43 : Int) (x44 : Int) (b83 : List (List DV)) (b83_1 : List (List DV)) (b83_2 : List (List DV)) (b1048592 : List (List DV × DV)) (b1048608 : List (List DV × DV)) (c : (Int × Unit)) (h :
    cond (decide ((x44 < x43))) (
      needs ((0 : Int) ≤ x44) (
      optAll ((x42)[(Int.toNat x44)]?) fun (r2 : List DV) =>
      optAll ((dInt IntKind.i64 r2 0)) fun (z3 : Int) =>
      optAll ((dInt IntKind.i64 r2 1)) fun (z4 : Int) =>
      needs ((0 : Int) ≤ x44) (
      optAll ((b83_1)[(Int.toNat x44)]?) fun (r5 : List DV) =>
      optAll ((dInt IntKind.i64 r5 0)) fun (z6 : Int) =>
      optAll ((mapHas (Option.some [false, false]) [(DV.v (Value.int IntKind.i64 z3)), (DV.v (Value.int IntKind.i64 z4))] b1048592)) fun (z7 : Bool) =>
      cond (z7) (
        c = ((2 : Int), ())) (
        optAll ((mapHas (Option.none) [(DV.v (Value.int IntKind.i64 z6))] b1048608)) fun (z8 : Bool) =>
        cond (z8) (
          c = ((2 : Int), ())) (
          cond (decide ((z6 < (0 : Int)))) (
            c = ((2 : Int), ())) (
            cond (decide ((z6 ≥ (((b83_2).length : Nat) : Int)))) (
              c = ((2 : Int), ())) (
              optAll (order_Check.R z3 z4) fun (c9 : (Int × Unit)) =>
              cond (((c9).1 != (0 : Int))) (
                c = ((2 : Int), ())) (
                optAll ((mapPut (Option.some [false, false]) [(DV.v (Value.int IntKind.i64 z3)), (DV.v (Value.int IntKind.i64 z4))] (DV.v (Value.bool true)) b1048592)) fun (m10 : List (List DV × DV)) =>
                optAll ((mapPut (Option.none) [(DV.v (Value.int IntKind.i64 z6))] (DV.v (Value.bool true)) b1048608)) fun (m11 : List (List DV × DV)) =>
                H12 x42 x43 (IntKind.i64.wrap (x44 + (1 : Int))) b83 b83_1 b83_2 m10 m11 c)))))))) (
      c = ((0 : Int), ()))) : H12 x42 x43 x44 b83 b83_1 b83_2 b1048592 b1048608 c := head_rule (n := 400) (noSum_ok _) (by kernel_rfl) h
end ghost_Check
/-! garrison/ghost.born -/
namespace ghost_born
def lv : Live := []
theorem start (a0_0 : List (List DV)) (a0_1 : List (List DV)) (a0_2 : List (List DV)) (a1_0 : Int) (a1_1 : Int) (a2 : Int) (c : ((List (List DV) × (List (List DV) × (List (List DV) × Unit))) × (Int × Unit))) (h :
    cond (decide (((((a0_2).length : Nat) : Int) ≥ (4096 : Int)))) (
      c = ((a0_0, (a0_1, (a0_2, ()))), ((6 : Int), ()))) (
      needs ((((a0_0).length * 16) ≤ 140737488355328) ∧ (((a0_0).length * 2) ≤ 140737488355328)) (
      needs ((a0_0).length = (a0_0).length) (
      needs (((((a0_0 ++ (([[(DV.v (Value.int IntKind.i64 a1_0)), (DV.v (Value.int IntKind.i64 a1_1))]]).take (1)))).length * 16) ≤ 140737488355328) ∧ ((((a0_0 ++ (([[(DV.v (Value.int IntKind.i64 a1_0)), (DV.v (Value.int IntKind.i64 a1_1))]]).take (1)))).length * 2) ≤ 140737488355328)) (
      needs ((((a0_1).length * 8) ≤ 140737488355328) ∧ (((a0_1).length * 1) ≤ 140737488355328)) (
      needs ((a0_1).length = (a0_1).length) (
      needs (((((a0_1 ++ (([[(DV.v (Value.int IntKind.i64 (((a0_2).length : Nat) : Int)))]]).take (1)))).length * 8) ≤ 140737488355328) ∧ ((((a0_1 ++ (([[(DV.v (Value.int IntKind.i64 (((a0_2).length : Nat) : Int)))]]).take (1)))).length * 1) ≤ 140737488355328)) (
      needs ((((a0_2).length * 8) ≤ 140737488355328) ∧ (((a0_2).length * 1) ≤ 140737488355328)) (
      needs ((a0_2).length = (a0_2).length) (
      needs (((((a0_2 ++ (([[(DV.v (Value.int IntKind.i64 a2))]]).take (1)))).length * 8) ≤ 140737488355328) ∧ ((((a0_2 ++ (([[(DV.v (Value.int IntKind.i64 a2))]]).take (1)))).length * 1) ≤ 140737488355328)) (
      c = (((((a0_0 ++ (([[(DV.v (Value.int IntKind.i64 a1_0)), (DV.v (Value.int IntKind.i64 a1_1))]]).take (1)))).take (((a0_0 ++ (([[(DV.v (Value.int IntKind.i64 a1_0)), (DV.v (Value.int IntKind.i64 a1_1))]]).take (1)))).length)), ((((a0_1 ++ (([[(DV.v (Value.int IntKind.i64 (((a0_2).length : Nat) : Int)))]]).take (1)))).take (((a0_1 ++ (([[(DV.v (Value.int IntKind.i64 (((a0_2).length : Nat) : Int)))]]).take (1)))).length)), ((((a0_2 ++ (([[(DV.v (Value.int IntKind.i64 a2))]]).take (1)))).take (((a0_2 ++ (([[(DV.v (Value.int IntKind.i64 a2))]]).take (1)))).length)), ()))), ((0 : Int), ()))))))))))))) : R a0_0 a0_1 a0_2 a1_0 a1_1 a2 = some c := start_rule (n := 400) (lv := lv) (noSum_ok _) (by kernel_rfl) h
end ghost_born
/-! slices.Index[[]int,int] -/
namespace slices_Index_int_int
def lv : Live := [((3, 1048576), [0, 1, 7, 8], [])]
abbrev H3 (x0 : List (List DV)) (x1 : Int) (x7 : Int) (x8 : Int) (c : (Int × Unit)) : Prop := HeadAns cfg 86 sh lv (bd cfg 86 [1, 0, 1, 0, 0]) 1048576 [.inBlock 0, .code (bd cfg 86 [1, 1])]
  [(AV.d (DV.lst 1 x0)), (AV.d (DV.v (Value.int IntKind.i64 x1))), (AV.d (DV.v (Value.int IntKind.i64 x7))), (AV.d (DV.v (Value.int IntKind.i64 x8)))] [] 1048576 c
theorem start (a0 : List (List DV)) (a1 : Int) (c : (Int × Unit)) (h :
    H3 a0 a1 (((a0).length : Nat) : Int) (0 : Int) c) : R a0 a1 = some c := start_rule (n := 400) (lv := lv) (noSum_ok _) (by kernel_rfl) h
theorem H3_step (x0 : List (List DV)) (x1 : Int) (x7 : Int) (x8 : Int) (c : (Int × Unit)) (h :
    cond (decide ((x8 < x7))) (
      needs ((0 : Int) ≤ x8) (
      optAll ((x0)[(Int.toNat x8)]?) fun (r0 : List DV) =>
      optAll ((dInt IntKind.i64 r0 0)) fun (z1 : Int) =>
      cond ((x1 == z1)) (
        c = (x8, ())) (
        H3 x0 x1 x7 (IntKind.i64.wrap (x8 + (1 : Int))) c))) (
      c = ((-1 : Int), ()))) : H3 x0 x1 x7 x8 c := head_rule (n := 400) (noSum_ok _) (by kernel_rfl) h
end slices_Index_int_int
/-! garrison/ghost.Add -/
namespace ghost_Add
def lv : Live := []
theorem start (a0_0 : List (List DV)) (a0_1 : List (List DV)) (a0_2 : List (List DV)) (a1_0 : Int) (a1_1 : Int) (a1_2 : Int) (a1_3 : Int) (a1_4 : Int) (c : ((List (List DV) × (List (List DV) × (List (List DV) × Unit))) × (Int × Unit))) (h :
    optAll (ghost_isBirth.R a1_0 a1_1 a1_2 a1_3 a1_4) fun (c0 : (Bool × Unit)) =>
    cond ((!(c0).1)) (
      c = ((a0_0, (a0_1, (a0_2, ()))), ((2 : Int), ()))) (
      optAll (ghost_Check.R a0_0 a0_1 a0_2) fun (c1 : (Int × Unit)) =>
      cond (((c1).1 != (0 : Int))) (
        c = ((a0_0, (a0_1, (a0_2, ()))), ((2 : Int), ()))) (
        optAll (slices_Index_api_Key_api_Key.R a0_0 a1_1 a1_2) fun (c2 : (Int × Unit)) =>
        optAll (slices_Index_api_Key_api_Key.R a0_0 a1_3 a1_4) fun (c3 : (Int × Unit)) =>
        cond ((a1_0 == (4 : Int))) (
          cond (decide (((c2).1 < (0 : Int)))) (
            c = ((a0_0, (a0_1, (a0_2, ()))), ((7 : Int), ()))) (
            needs ((((a0_0).length * 16) ≤ 140737488355328) ∧ (((a0_0).length * 2) ≤ 140737488355328)) (
            needs (((IntKind.i64.wrap ((c2).1 + (1 : Int))) ≤ (((a0_0).length : Nat) : Int)) ∧ ((((a0_0).length : Nat) : Int) ≤ ((((a0_0).length - 0) : Nat) : Int))) (
            needs (((0 : Int) ≤ (c2).1) ∧ (((c2).1 ≤ (IntKind.i64.wrap ((c2).1 + (1 : Int)))) ∧ ((IntKind.i64.wrap ((c2).1 + (1 : Int))) ≤ ((((a0_0).length - 0) : Nat) : Int)))) (
            needs (¬ (((Int.toNat (c2).1) = (Int.toNat (IntKind.i64.wrap ((c2).1 + (1 : Int))))) ∧ ((((a0_0).length : Nat) : Int) = (IntKind.i64.wrap ((c2).1 + (1 : Int)))))) (
            cond (((c2).1 == (IntKind.i64.wrap ((c2).1 + (1 : Int))))) (
              needs ((((a0_1).length * 8) ≤ 140737488355328) ∧ (((a0_1).length * 1) ≤ 140737488355328)) (
              needs (((IntKind.i64.wrap ((c2).1 + (1 : Int))) ≤ (((a0_1).length : Nat) : Int)) ∧ ((((a0_1).length : Nat) : Int) ≤ ((((a0_1).length - 0) : Nat) : Int))) (
              needs (((0 : Int) ≤ (c2).1) ∧ (((c2).1 ≤ (IntKind.i64.wrap ((c2).1 + (1 : Int)))) ∧ ((IntKind.i64.wrap ((c2).1 + (1 : Int))) ≤ ((((a0_1).length - 0) : Nat) : Int)))) (
              needs (¬ (((Int.toNat (c2).1) = (Int.toNat (IntKind.i64.wrap ((c2).1 + (1 : Int))))) ∧ ((((a0_1).length : Nat) : Int) = (IntKind.i64.wrap ((c2).1 + (1 : Int)))))) (
              cond (((c2).1 == (IntKind.i64.wrap ((c2).1 + (1 : Int))))) (
                c = ((((a0_0).take ((a0_0).length)), (((a0_1).take ((a0_1).length)), (a0_2, ()))), ((0 : Int), ()))) (
                needs (((0 : Int) ≤ (0 : Int)) ∧ (((0 : Int) ≤ (c2).1) ∧ ((c2).1 ≤ ((((a0_1).length - 0) : Nat) : Int)))) (
                needs (((0 : Int) ≤ (IntKind.i64.wrap ((c2).1 + (1 : Int)))) ∧ (((IntKind.i64.wrap ((c2).1 + (1 : Int))) ≤ (((a0_1).length : Nat) : Int)) ∧ ((((a0_1).length : Nat) : Int) ≤ ((((a0_1).length - 0) : Nat) : Int)))) (
                cond (decide (((0 = 0) ∧ (((Int.toNat (c2).1) - 0) = (a0_1).length)))) (
                  needs (((((a0_1 ++ ((((a0_1).drop ((0 + (Int.toNat (IntKind.i64.wrap ((c2).1 + (1 : Int)))))))).take (((Int.toNat (((a0_1).length : Nat) : Int)) - (Int.toNat (IntKind.i64.wrap ((c2).1 + (1 : Int))))))))).length * 8) ≤ 140737488355328) ∧ ((((a0_1 ++ ((((a0_1).drop ((0 + (Int.toNat (IntKind.i64.wrap ((c2).1 + (1 : Int)))))))).take (((Int.toNat (((a0_1).length : Nat) : Int)) - (Int.toNat (IntKind.i64.wrap ((c2).1 + (1 : Int))))))))).length * 1) ≤ 140737488355328)) (
                  needs (((0 : Int) ≤ ((((a0_1 ++ ((((a0_1).drop ((0 + (Int.toNat (IntKind.i64.wrap ((c2).1 + (1 : Int)))))))).take (((Int.toNat (((a0_1).length : Nat) : Int)) - (Int.toNat (IntKind.i64.wrap ((c2).1 + (1 : Int))))))))).length : Nat) : Int)) ∧ ((((((a0_1 ++ ((((a0_1).drop ((0 + (Int.toNat (IntKind.i64.wrap ((c2).1 + (1 : Int)))))))).take (((Int.toNat (((a0_1).length : Nat) : Int)) - (Int.toNat (IntKind.i64.wrap ((c2).1 + (1 : Int))))))))).length : Nat) : Int) ≤ (((a0_1).length : Nat) : Int)) ∧ ((((a0_1).length : Nat) : Int) ≤ (((((a0_1 ++ ((((a0_1).drop ((0 + (Int.toNat (IntKind.i64.wrap ((c2).1 + (1 : Int)))))))).take (((Int.toNat (((a0_1).length : Nat) : Int)) - (Int.toNat (IntKind.i64.wrap ((c2).1 + (1 : Int))))))))).length - 0) : Nat) : Int)))) (
                  c = ((((a0_0).take ((a0_0).length)), ((((overD (a0_1 ++ ((((a0_1).drop ((0 + (Int.toNat (IntKind.i64.wrap ((c2).1 + (1 : Int)))))))).take (((Int.toNat (((a0_1).length : Nat) : Int)) - (Int.toNat (IntKind.i64.wrap ((c2).1 + (1 : Int)))))))) (0 + (Int.toNat ((((a0_1 ++ ((((a0_1).drop ((0 + (Int.toNat (IntKind.i64.wrap ((c2).1 + (1 : Int)))))))).take (((Int.toNat (((a0_1).length : Nat) : Int)) - (Int.toNat (IntKind.i64.wrap ((c2).1 + (1 : Int))))))))).length : Nat) : Int))) (List.replicate (((Int.toNat (((a0_1).length : Nat) : Int)) - (Int.toNat ((((a0_1 ++ ((((a0_1).drop ((0 + (Int.toNat (IntKind.i64.wrap ((c2).1 + (1 : Int)))))))).take (((Int.toNat (((a0_1).length : Nat) : Int)) - (Int.toNat (IntKind.i64.wrap ((c2).1 + (1 : Int))))))))).length : Nat) : Int)))) [(DV.v (Value.int IntKind.i64 (0 : Int)))]))).take (((a0_1 ++ ((((a0_1).drop ((0 + (Int.toNat (IntKind.i64.wrap ((c2).1 + (1 : Int)))))))).take (((Int.toNat (((a0_1).length : Nat) : Int)) - (Int.toNat (IntKind.i64.wrap ((c2).1 + (1 : Int))))))))).length)), (a0_2, ()))), ((0 : Int), ()))))) (
                  needs (((0 + ((Int.toNat (c2).1) - 0)) + (((((a0_1).drop ((0 + (Int.toNat (IntKind.i64.wrap ((c2).1 + (1 : Int)))))))).take (((Int.toNat (((a0_1).length : Nat) : Int)) - (Int.toNat (IntKind.i64.wrap ((c2).1 + (1 : Int)))))))).length) ≤ (a0_1).length) (
                  needs (((0 : Int) ≤ (((((Int.toNat (c2).1) - 0) + (((((a0_1).drop ((0 + (Int.toNat (IntKind.i64.wrap ((c2).1 + (1 : Int)))))))).take (((Int.toNat (((a0_1).length : Nat) : Int)) - (Int.toNat (IntKind.i64.wrap ((c2).1 + (1 : Int)))))))).length) : Nat) : Int)) ∧ (((((((Int.toNat (c2).1) - 0) + (((((a0_1).drop ((0 + (Int.toNat (IntKind.i64.wrap ((c2).1 + (1 : Int)))))))).take (((Int.toNat (((a0_1).length : Nat) : Int)) - (Int.toNat (IntKind.i64.wrap ((c2).1 + (1 : Int)))))))).length) : Nat) : Int) ≤ (((a0_1).length : Nat) : Int)) ∧ ((((a0_1).length : Nat) : Int) ≤ (((((overD a0_1 (0 + ((Int.toNat (c2).1) - 0)) ((((a0_1).drop ((0 + (Int.toNat (IntKind.i64.wrap ((c2).1 + (1 : Int)))))))).take (((Int.toNat (((a0_1).length : Nat) : Int)) - (Int.toNat (IntKind.i64.wrap ((c2).1 + (1 : Int))))))))).length - 0) : Nat) : Int)))) (
                  c = ((((a0_0).take ((a0_0).length)), ((((overD (overD a0_1 (0 + ((Int.toNat (c2).1) - 0)) ((((a0_1).drop ((0 + (Int.toNat (IntKind.i64.wrap ((c2).1 + (1 : Int)))))))).take (((Int.toNat (((a0_1).length : Nat) : Int)) - (Int.toNat (IntKind.i64.wrap ((c2).1 + (1 : Int)))))))) (0 + (Int.toNat (((((Int.toNat (c2).1) - 0) + (((((a0_1).drop ((0 + (Int.toNat (IntKind.i64.wrap ((c2).1 + (1 : Int)))))))).take (((Int.toNat (((a0_1).length : Nat) : Int)) - (Int.toNat (IntKind.i64.wrap ((c2).1 + (1 : Int)))))))).length) : Nat) : Int))) (List.replicate (((Int.toNat (((a0_1).length : Nat) : Int)) - (Int.toNat (((((Int.toNat (c2).1) - 0) + (((((a0_1).drop ((0 + (Int.toNat (IntKind.i64.wrap ((c2).1 + (1 : Int)))))))).take (((Int.toNat (((a0_1).length : Nat) : Int)) - (Int.toNat (IntKind.i64.wrap ((c2).1 + (1 : Int)))))))).length) : Nat) : Int)))) [(DV.v (Value.int IntKind.i64 (0 : Int)))]))).take ((((Int.toNat (c2).1) - 0) + (((((a0_1).drop ((0 + (Int.toNat (IntKind.i64.wrap ((c2).1 + (1 : Int)))))))).take (((Int.toNat (((a0_1).length : Nat) : Int)) - (Int.toNat (IntKind.i64.wrap ((c2).1 + (1 : Int)))))))).length))), (a0_2, ()))), ((0 : Int), ()))))))))))))) (
              needs (((0 : Int) ≤ (0 : Int)) ∧ (((0 : Int) ≤ (c2).1) ∧ ((c2).1 ≤ ((((a0_0).length - 0) : Nat) : Int)))) (
              needs (((0 : Int) ≤ (IntKind.i64.wrap ((c2).1 + (1 : Int)))) ∧ (((IntKind.i64.wrap ((c2).1 + (1 : Int))) ≤ (((a0_0).length : Nat) : Int)) ∧ ((((a0_0).length : Nat) : Int) ≤ ((((a0_0).length - 0) : Nat) : Int)))) (
              cond (decide (((0 = 0) ∧ (((Int.toNat (c2).1) - 0) = (a0_0).length)))) (
                needs (((((a0_0 ++ ((((a0_0).drop ((0 + (Int.toNat (IntKind.i64.wrap ((c2).1 + (1 : Int)))))))).take (((Int.toNat (((a0_0).length : Nat) : Int)) - (Int.toNat (IntKind.i64.wrap ((c2).1 + (1 : Int))))))))).length * 16) ≤ 140737488355328) ∧ ((((a0_0 ++ ((((a0_0).drop ((0 + (Int.toNat (IntKind.i64.wrap ((c2).1 + (1 : Int)))))))).take (((Int.toNat (((a0_0).length : Nat) : Int)) - (Int.toNat (IntKind.i64.wrap ((c2).1 + (1 : Int))))))))).length * 2) ≤ 140737488355328)) (
                needs (((0 : Int) ≤ ((((a0_0 ++ ((((a0_0).drop ((0 + (Int.toNat (IntKind.i64.wrap ((c2).1 + (1 : Int)))))))).take (((Int.toNat (((a0_0).length : Nat) : Int)) - (Int.toNat (IntKind.i64.wrap ((c2).1 + (1 : Int))))))))).length : Nat) : Int)) ∧ ((((((a0_0 ++ ((((a0_0).drop ((0 + (Int.toNat (IntKind.i64.wrap ((c2).1 + (1 : Int)))))))).take (((Int.toNat (((a0_0).length : Nat) : Int)) - (Int.toNat (IntKind.i64.wrap ((c2).1 + (1 : Int))))))))).length : Nat) : Int) ≤ (((a0_0).length : Nat) : Int)) ∧ ((((a0_0).length : Nat) : Int) ≤ (((((a0_0 ++ ((((a0_0).drop ((0 + (Int.toNat (IntKind.i64.wrap ((c2).1 + (1 : Int)))))))).take (((Int.toNat (((a0_0).length : Nat) : Int)) - (Int.toNat (IntKind.i64.wrap ((c2).1 + (1 : Int))))))))).length - 0) : Nat) : Int)))) (
                needs ((((a0_1).length * 8) ≤ 140737488355328) ∧ (((a0_1).length * 1) ≤ 140737488355328)) (
                needs (((IntKind.i64.wrap ((c2).1 + (1 : Int))) ≤ (((a0_1).length : Nat) : Int)) ∧ ((((a0_1).length : Nat) : Int) ≤ ((((a0_1).length - 0) : Nat) : Int))) (
                needs (((0 : Int) ≤ (c2).1) ∧ (((c2).1 ≤ (IntKind.i64.wrap ((c2).1 + (1 : Int)))) ∧ ((IntKind.i64.wrap ((c2).1 + (1 : Int))) ≤ ((((a0_1).length - 0) : Nat) : Int)))) (
                needs (¬ (((Int.toNat (c2).1) = (Int.toNat (IntKind.i64.wrap ((c2).1 + (1 : Int))))) ∧ ((((a0_1).length : Nat) : Int) = (IntKind.i64.wrap ((c2).1 + (1 : Int)))))) (
                cond (((c2).1 == (IntKind.i64.wrap ((c2).1 + (1 : Int))))) (
                  c = (((((overD (a0_0 ++ ((((a0_0).drop ((0 + (Int.toNat (IntKind.i64.wrap ((c2).1 + (1 : Int)))))))).take (((Int.toNat (((a0_0).length : Nat) : Int)) - (Int.toNat (IntKind.i64.wrap ((c2).1 + (1 : Int)))))))) (0 + (Int.toNat ((((a0_0 ++ ((((a0_0).drop ((0 + (Int.toNat (IntKind.i64.wrap ((c2).1 + (1 : Int)))))))).take (((Int.toNat (((a0_0).length : Nat) : Int)) - (Int.toNat (IntKind.i64.wrap ((c2).1 + (1 : Int))))))))).length : Nat) : Int))) (List.replicate (((Int.toNat (((a0_0).length : Nat) : Int)) - (Int.toNat ((((a0_0 ++ ((((a0_0).drop ((0 + (Int.toNat (IntKind.i64.wrap ((c2).1 + (1 : Int)))))))).take (((Int.toNat (((a0_0).length : Nat) : Int)) - (Int.toNat (IntKind.i64.wrap ((c2).1 + (1 : Int))))))))).length : Nat) : Int)))) [(DV.v (Value.int IntKind.i64 (0 : Int))), (DV.v (Value.int IntKind.i64 (0 : Int)))]))).take (((a0_0 ++ ((((a0_0).drop ((0 + (Int.toNat (IntKind.i64.wrap ((c2).1 + (1 : Int)))))))).take (((Int.toNat (((a0_0).length : Nat) : Int)) - (Int.toNat (IntKind.i64.wrap ((c2).1 + (1 : Int))))))))).length)), (((a0_1).take ((a0_1).length)), (a0_2, ()))), ((0 : Int), ()))) (
                  needs (((0 : Int) ≤ (0 : Int)) ∧ (((0 : Int) ≤ (c2).1) ∧ ((c2).1 ≤ ((((a0_1).length - 0) : Nat) : Int)))) (
                  needs (((0 : Int) ≤ (IntKind.i64.wrap ((c2).1 + (1 : Int)))) ∧ (((IntKind.i64.wrap ((c2).1 + (1 : Int))) ≤ (((a0_1).length : Nat) : Int)) ∧ ((((a0_1).length : Nat) : Int) ≤ ((((a0_1).length - 0) : Nat) : Int)))) (
                  cond (decide (((0 = 0) ∧ (((Int.toNat (c2).1) - 0) = (a0_1).length)))) (
                    needs (((((a0_1 ++ ((((a0_1).drop ((0 + (Int.toNat (IntKind.i64.wrap ((c2).1 + (1 : Int)))))))).take (((Int.toNat (((a0_1).length : Nat) : Int)) - (Int.toNat (IntKind.i64.wrap ((c2).1 + (1 : Int))))))))).length * 8) ≤ 140737488355328) ∧ ((((a0_1 ++ ((((a0_1).drop ((0 + (Int.toNat (IntKind.i64.wrap ((c2).1 + (1 : Int)))))))).take (((Int.toNat (((a0_1).length : Nat) : Int)) - (Int.toNat (IntKind.i64.wrap ((c2).1 + (1 : Int))))))))).length * 1) ≤ 140737488355328)) (
                    needs (((0 : Int) ≤ ((((a0_1 ++ ((((a0_1).drop ((0 + (Int.toNat (IntKind.i64.wrap ((c2).1 + (1 : Int)))))))).take (((Int.toNat (((a0_1).length : Nat) : Int)) - (Int.toNat (IntKind.i64.wrap ((c2).1 + (1 : Int))))))))).length : Nat) : Int)) ∧ ((((((a0_1 ++ ((((a0_1).drop ((0 + (Int.toNat (IntKind.i64.wrap ((c2).1 + (1 : Int)))))))).take (((Int.toNat (((a0_1).length : Nat) : Int)) - (Int.toNat (IntKind.i64.wrap ((c2).1 + (1 : Int))))))))).length : Nat) : Int) ≤ (((a0_1).length : Nat) : Int)) ∧ ((((a0_1).length : Nat) : Int) ≤ (((((a0_1 ++ ((((a0_1).drop ((0 + (Int.toNat (IntKind.i64.wrap ((c2).1 + (1 : Int)))))))).take (((Int.toNat (((a0_1).length : Nat) : Int)) - (Int.toNat (IntKind.i64.wrap ((c2).1 + (1 : Int))))))))).length - 0) : Nat) : Int)))) (
                    c = (((((overD (a0_0 ++ ((((a0_0).drop ((0 + (Int.toNat (IntKind.i64.wrap ((c2).1 + (1 : Int)))))))).take (((Int.toNat (((a0_0).length : Nat) : Int)) - (Int.toNat (IntKind.i64.wrap ((c2).1 + (1 : Int)))))))) (0 + (Int.toNat ((((a0_0 ++ ((((a0_0).drop ((0 + (Int.toNat (IntKind.i64.wrap ((c2).1 + (1 : Int)))))))).take (((Int.toNat (((a0_0).length : Nat) : Int)) - (Int.toNat (IntKind.i64.wrap ((c2).1 + (1 : Int))))))))).length : Nat) : Int))) (List.replicate (((Int.toNat (((a0_0).length : Nat) : Int)) - (Int.toNat ((((a0_0 ++ ((((a0_0).drop ((0 + (Int.toNat (IntKind.i64.wrap ((c2).1 + (1 : Int)))))))).take (((Int.toNat (((a0_0).length : Nat) : Int)) - (Int.toNat (IntKind.i64.wrap ((c2).1 + (1 : Int))))))))).length : Nat) : Int)))) [(DV.v (Value.int IntKind.i64 (0 : Int))), (DV.v (Value.int IntKind.i64 (0 : Int)))]))).take (((a0_0 ++ ((((a0_0).drop ((0 + (Int.toNat (IntKind.i64.wrap ((c2).1 + (1 : Int)))))))).take (((Int.toNat (((a0_0).length : Nat) : Int)) - (Int.toNat (IntKind.i64.wrap ((c2).1 + (1 : Int))))))))).length)), ((((overD (a0_1 ++ ((((a0_1).drop ((0 + (Int.toNat (IntKind.i64.wrap ((c2).1 + (1 : Int)))))))).take (((Int.toNat (((a0_1).length : Nat) : Int)) - (Int.toNat (IntKind.i64.wrap ((c2).1 + (1 : Int)))))))) (0 + (Int.toNat ((((a0_1 ++ ((((a0_1).drop ((0 + (Int.toNat (IntKind.i64.wrap ((c2).1 + (1 : Int)))))))).take (((Int.toNat (((a0_1).length : Nat) : Int)) - (Int.toNat (IntKind.i64.wrap ((c2).1 + (1 : Int))))))))).length : Nat) : Int))) (List.replicate (((Int.toNat (((a0_1).length : Nat) : Int)) - (Int.toNat ((((a0_1 ++ ((((a0_1).drop ((0 + (Int.toNat (IntKind.i64.wrap ((c2).1 + (1 : Int)))))))).take (((Int.toNat (((a0_1).length : Nat) : Int)) - (Int.toNat (IntKind.i64.wrap ((c2).1 + (1 : Int))))))))).length : Nat) : Int)))) [(DV.v (Value.int IntKind.i64 (0 : Int)))]))).take (((a0_1 ++ ((((a0_1).drop ((0 + (Int.toNat (IntKind.i64.wrap ((c2).1 + (1 : Int)))))))).take (((Int.toNat (((a0_1).length : Nat) : Int)) - (Int.toNat (IntKind.i64.wrap ((c2).1 + (1 : Int))))))))).length)), (a0_2, ()))), ((0 : Int), ()))))) (
                    needs (((0 + ((Int.toNat (c2).1) - 0)) + (((((a0_1).drop ((0 + (Int.toNat (IntKind.i64.wrap ((c2).1 + (1 : Int)))))))).take (((Int.toNat (((a0_1).length : Nat) : Int)) - (Int.toNat (IntKind.i64.wrap ((c2).1 + (1 : Int)))))))).length) ≤ (a0_1).length) (
                    needs (((0 : Int) ≤ (((((Int.toNat (c2).1) - 0) + (((((a0_1).drop ((0 + (Int.toNat (IntKind.i64.wrap ((c2).1 + (1 : Int)))))))).take (((Int.toNat (((a0_1).length : Nat) : Int)) - (Int.toNat (IntKind.i64.wrap ((c2).1 + (1 : Int)))))))).length) : Nat) : Int)) ∧ (((((((Int.toNat (c2).1) - 0) + (((((a0_1).drop ((0 + (Int.toNat (IntKind.i64.wrap ((c2).1 + (1 : Int)))))))).take (((Int.toNat (((a0_1).length : Nat) : Int)) - (Int.toNat (IntKind.i64.wrap ((c2).1 + (1 : Int)))))))).length) : Nat) : Int) ≤ (((a0_1).length : Nat) : Int)) ∧ ((((a0_1).length : Nat) : Int) ≤ (((((overD a0_1 (0 + ((Int.toNat (c2).1) - 0)) ((((a0_1).drop ((0 + (Int.toNat (IntKind.i64.wrap ((c2).1 + (1 : Int)))))))).take (((Int.toNat (((a0_1).length : Nat) : Int)) - (Int.toNat (IntKind.i64.wrap ((c2).1 + (1 : Int))))))))).length - 0) : Nat) : Int)))) (
                    c = (((((overD (a0_0 ++ ((((a0_0).drop ((0 + (Int.toNat (IntKind.i64.wrap ((c2).1 + (1 : Int)))))))).take (((Int.toNat (((a0_0).length : Nat) : Int)) - (Int.toNat (IntKind.i64.wrap ((c2).1 + (1 : Int)))))))) (0 + (Int.toNat ((((a0_0 ++ ((((a0_0).drop ((0 + (Int.toNat (IntKind.i64.wrap ((c2).1 + (1 : Int)))))))).take (((Int.toNat (((a0_0).length : Nat) : Int)) - (Int.toNat (IntKind.i64.wrap ((c2).1 + (1 : Int))))))))).length : Nat) : Int))) (List.replicate (((Int.toNat (((a0_0).length : Nat) : Int)) - (Int.toNat ((((a0_0 ++ ((((a0_0).drop ((0 + (Int.toNat (IntKind.i64.wrap ((c2).1 + (1 : Int)))))))).take (((Int.toNat (((a0_0).length : Nat) : Int)) - (Int.toNat (IntKind.i64.wrap ((c2).1 + (1 : Int))))))))).length : Nat) : Int)))) [(DV.v (Value.int IntKind.i64 (0 : Int))), (DV.v (Value.int IntKind.i64 (0 : Int)))]))).take (((a0_0 ++ ((((a0_0).drop ((0 + (Int.toNat (IntKind.i64.wrap ((c2).1 + (1 : Int)))))))).take (((Int.toNat (((a0_0).length : Nat) : Int)) - (Int.toNat (IntKind.i64.wrap ((c2).1 + (1 : Int))))))))).length)), ((((overD (overD a0_1 (0 + ((Int.toNat (c2).1) - 0)) ((((a0_1).drop ((0 + (Int.toNat (IntKind.i64.wrap ((c2).1 + (1 : Int)))))))).take (((Int.toNat (((a0_1).length : Nat) : Int)) - (Int.toNat (IntKind.i64.wrap ((c2).1 + (1 : Int)))))))) (0 + (Int.toNat (((((Int.toNat (c2).1) - 0) + (((((a0_1).drop ((0 + (Int.toNat (IntKind.i64.wrap ((c2).1 + (1 : Int)))))))).take (((Int.toNat (((a0_1).length : Nat) : Int)) - (Int.toNat (IntKind.i64.wrap ((c2).1 + (1 : Int)))))))).length) : Nat) : Int))) (List.replicate (((Int.toNat (((a0_1).length : Nat) : Int)) - (Int.toNat (((((Int.toNat (c2).1) - 0) + (((((a0_1).drop ((0 + (Int.toNat (IntKind.i64.wrap ((c2).1 + (1 : Int)))))))).take (((Int.toNat (((a0_1).length : Nat) : Int)) - (Int.toNat (IntKind.i64.wrap ((c2).1 + (1 : Int)))))))).length) : Nat) : Int)))) [(DV.v (Value.int IntKind.i64 (0 : Int)))]))).take ((((Int.toNat (c2).1) - 0) + (((((a0_1).drop ((0 + (Int.toNat (IntKind.i64.wrap ((c2).1 + (1 : Int)))))))).take (((Int.toNat (((a0_1).length : Nat) : Int)) - (Int.toNat (IntKind.i64.wrap ((c2).1 + (1 : Int)))))))).length))), (a0_2, ()))), ((0 : Int), ()))))))))))))))) (
                needs (((0 + ((Int.toNat (c2).1) - 0)) + (((((a0_0).drop ((0 + (Int.toNat (IntKind.i64.wrap ((c2).1 + (1 : Int)))))))).take (((Int.toNat (((a0_0).length : Nat) : Int)) - (Int.toNat (IntKind.i64.wrap ((c2).1 + (1 : Int)))))))).length) ≤ (a0_0).length) (
                needs (((0 : Int) ≤ (((((Int.toNat (c2).1) - 0) + (((((a0_0).drop ((0 + (Int.toNat (IntKind.i64.wrap ((c2).1 + (1 : Int)))))))).take (((Int.toNat (((a0_0).length : Nat) : Int)) - (Int.toNat (IntKind.i64.wrap ((c2).1 + (1 : Int)))))))).length) : Nat) : Int)) ∧ (((((((Int.toNat (c2).1) - 0) + (((((a0_0).drop ((0 + (Int.toNat (IntKind.i64.wrap ((c2).1 + (1 : Int)))))))).take (((Int.toNat (((a0_0).length : Nat) : Int)) - (Int.toNat (IntKind.i64.wrap ((c2).1 + (1 : Int)))))))).length) : Nat) : Int) ≤ (((a0_0).length : Nat) : Int)) ∧ ((((a0_0).length : Nat) : Int) ≤ (((((overD a0_0 (0 + ((Int.toNat (c2).1) - 0)) ((((a0_0).drop ((0 + (Int.toNat (IntKind.i64.wrap ((c2).1 + (1 : Int)))))))).take (((Int.toNat (((a0_0).length : Nat) : Int)) - (Int.toNat (IntKind.i64.wrap ((c2).1 + (1 : Int))))))))).length - 0) : Nat) : Int)))) (
                needs ((((a0_1).length * 8) ≤ 140737488355328) ∧ (((a0_1).length * 1) ≤ 140737488355328)) (
                needs (((IntKind.i64.wrap ((c2).1 + (1 : Int))) ≤ (((a0_1).length : Nat) : Int)) ∧ ((((a0_1).length : Nat) : Int) ≤ ((((a0_1).length - 0) : Nat) : Int))) (
                needs (((0 : Int) ≤ (c2).1) ∧ (((c2).1 ≤ (IntKind.i64.wrap ((c2).1 + (1 : Int)))) ∧ ((IntKind.i64.wrap ((c2).1 + (1 : Int))) ≤ ((((a0_1).length - 0) : Nat) : Int)))) (
                needs (¬ (((Int.toNat (c2).1) = (Int.toNat (IntKind.i64.wrap ((c2).1 + (1 : Int))))) ∧ ((((a0_1).length : Nat) : Int) = (IntKind.i64.wrap ((c2).1 + (1 : Int)))))) (
                cond (((c2).1 == (IntKind.i64.wrap ((c2).1 + (1 : Int))))) (
                  c = (((((overD (overD a0_0 (0 + ((Int.toNat (c2).1) - 0)) ((((a0_0).drop ((0 + (Int.toNat (IntKind.i64.wrap ((c2).1 + (1 : Int)))))))).take (((Int.toNat (((a0_0).length : Nat) : Int)) - (Int.toNat (IntKind.i64.wrap ((c2).1 + (1 : Int)))))))) (0 + (Int.toNat (((((Int.toNat (c2).1) - 0) + (((((a0_0).drop ((0 + (Int.toNat (IntKind.i64.wrap ((c2).1 + (1 : Int)))))))).take (((Int.toNat (((a0_0).length : Nat) : Int)) - (Int.toNat (IntKind.i64.wrap ((c2).1 + (1 : Int)))))))).length) : Nat) : Int))) (List.replicate (((Int.toNat (((a0_0).length : Nat) : Int)) - (Int.toNat (((((Int.toNat (c2).1) - 0) + (((((a0_0).drop ((0 + (Int.toNat (IntKind.i64.wrap ((c2).1 + (1 : Int)))))))).take (((Int.toNat (((a0_0).length : Nat) : Int)) - (Int.toNat (IntKind.i64.wrap ((c2).1 + (1 : Int)))))))).length) : Nat) : Int)))) [(DV.v (Value.int IntKind.i64 (0 : Int))), (DV.v (Value.int IntKind.i64 (0 : Int)))]))).take ((((Int.toNat (c2).1) - 0) + (((((a0_0).drop ((0 + (Int.toNat (IntKind.i64.wrap ((c2).1 + (1 : Int)))))))).take (((Int.toNat (((a0_0).length : Nat) : Int)) - (Int.toNat (IntKind.i64.wrap ((c2).1 + (1 : Int)))))))).length))), (((a0_1).take ((a0_1).length)), (a0_2, ()))), ((0 : Int), ()))) (
                  needs (((0 : Int) ≤ (0 : Int)) ∧ (((0 : Int) ≤ (c2).1) ∧ ((c2).1 ≤ ((((a0_1).length - 0) : Nat) : Int)))) (
                  needs (((0 : Int) ≤ (IntKind.i64.wrap ((c2).1 + (1 : Int)))) ∧ (((IntKind.i64.wrap ((c2).1 + (1 : Int))) ≤ (((a0_1).length : Nat) : Int)) ∧ ((((a0_1).length : Nat) : Int) ≤ ((((a0_1).length - 0) : Nat) : Int)))) (
                  cond (decide (((0 = 0) ∧ (((Int.toNat (c2).1) - 0) = (a0_1).length)))) (
                    needs (((((a0_1 ++ ((((a0_1).drop ((0 + (Int.toNat (IntKind.i64.wrap ((c2).1 + (1 : Int)))))))).take (((Int.toNat (((a0_1).length : Nat) : Int)) - (Int.toNat (IntKind.i64.wrap ((c2).1 + (1 : Int))))))))).length * 8) ≤ 140737488355328) ∧ ((((a0_1 ++ ((((a0_1).drop ((0 + (Int.toNat (IntKind.i64.wrap ((c2).1 + (1 : Int)))))))).take (((Int.toNat (((a0_1).length : Nat) : Int)) - (Int.toNat (IntKind.i64.wrap ((c2).1 + (1 : Int))))))))).length * 1) ≤ 140737488355328)) (
                    needs (((0 : Int) ≤ ((((a0_1 ++ ((((a0_1).drop ((0 + (Int.toNat (IntKind.i64.wrap ((c2).1 + (1 : Int)))))))).take (((Int.toNat (((a0_1).length : Nat) : Int)) - (Int.toNat (IntKind.i64.wrap ((c2).1 + (1 : Int))))))))).length : Nat) : Int)) ∧ ((((((a0_1 ++ ((((a0_1).drop ((0 + (Int.toNat (IntKind.i64.wrap ((c2).1 + (1 : Int)))))))).take (((Int.toNat (((a0_1).length : Nat) : Int)) - (Int.toNat (IntKind.i64.wrap ((c2).1 + (1 : Int))))))))).length : Nat) : Int) ≤ (((a0_1).length : Nat) : Int)) ∧ ((((a0_1).length : Nat) : Int) ≤ (((((a0_1 ++ ((((a0_1).drop ((0 + (Int.toNat (IntKind.i64.wrap ((c2).1 + (1 : Int)))))))).take (((Int.toNat (((a0_1).length : Nat) : Int)) - (Int.toNat (IntKind.i64.wrap ((c2).1 + (1 : Int))))))))).length - 0) : Nat) : Int)))) (
                    c = (((((overD (overD a0_0 (0 + ((Int.toNat (c2).1) - 0)) ((((a0_0).drop ((0 + (Int.toNat (IntKind.i64.wrap ((c2).1 + (1 : Int)))))))).take (((Int.toNat (((a0_0).length : Nat) : Int)) - (Int.toNat (IntKind.i64.wrap ((c2).1 + (1 : Int)))))))) (0 + (Int.toNat (((((Int.toNat (c2).1) - 0) + (((((a0_0).drop ((0 + (Int.toNat (IntKind.i64.wrap ((c2).1 + (1 : Int)))))))).take (((Int.toNat (((a0_0).length : Nat) : Int)) - (Int.toNat (IntKind.i64.wrap ((c2).1 + (1 : Int)))))))).length) : Nat) : Int))) (List.replicate (((Int.toNat (((a0_0).length : Nat) : Int)) - (Int.toNat (((((Int.toNat (c2).1) - 0) + (((((a0_0).drop ((0 + (Int.toNat (IntKind.i64.wrap ((c2).1 + (1 : Int)))))))).take (((Int.toNat (((a0_0).length : Nat) : Int)) - (Int.toNat (IntKind.i64.wrap ((c2).1 + (1 : Int)))))))).length) : Nat) : Int)))) [(DV.v (Value.int IntKind.i64 (0 : Int))), (DV.v (Value.int IntKind.i64 (0 : Int)))]))).take ((((Int.toNat (c2).1) - 0) + (((((a0_0).drop ((0 + (Int.toNat (IntKind.i64.wrap ((c2).1 + (1 : Int)))))))).take (((Int.toNat (((a0_0).length : Nat) : Int)) - (Int.toNat (IntKind.i64.wrap ((c2).1 + (1 : Int)))))))).length))), ((((overD (a0_1 ++ ((((a0_1).drop ((0 + (Int.toNat (IntKind.i64.wrap ((c2).1 + (1 : Int)))))))).take (((Int.toNat (((a0_1).length : Nat) : Int)) - (Int.toNat (IntKind.i64.wrap ((c2).1 + (1 : Int)))))))) (0 + (Int.toNat ((((a0_1 ++ ((((a0_1).drop ((0 + (Int.toNat (IntKind.i64.wrap ((c2).1 + (1 : Int)))))))).take (((Int.toNat (((a0_1).length : Nat) : Int)) - (Int.toNat (IntKind.i64.wrap ((c2).1 + (1 : Int))))))))).length : Nat) : Int))) (List.replicate (((Int.toNat (((a0_1).length : Nat) : Int)) - (Int.toNat ((((a0_1 ++ ((((a0_1).drop ((0 + (Int.toNat (IntKind.i64.wrap ((c2).1 + (1 : Int)))))))).take (((Int.toNat (((a0_1).length : Nat) : Int)) - (Int.toNat (IntKind.i64.wrap ((c2).1 + (1 : Int))))))))).length : Nat) : Int)))) [(DV.v (Value.int IntKind.i64 (0 : Int)))]))).take (((a0_1 ++ ((((a0_1).drop ((0 + (Int.toNat (IntKind.i64.wrap ((c2).1 + (1 : Int)))))))).take (((Int.toNat (((a0_1).length : Nat) : Int)) - (Int.toNat (IntKind.i64.wrap ((c2).1 + (1 : Int))))))))).length)), (a0_2, ()))), ((0 : Int), ()))))) (
                    needs (((0 + ((Int.toNat (c2).1) - 0)) + (((((a0_1).drop ((0 + (Int.toNat (IntKind.i64.wrap ((c2).1 + (1 : Int)))))))).take (((Int.toNat (((a0_1).length : Nat) : Int)) - (Int.toNat (IntKind.i64.wrap ((c2).1 + (1 : Int)))))))).length) ≤ (a0_1).length) (
                    needs (((0 : Int) ≤ (((((Int.toNat (c2).1) - 0) + (((((a0_1).drop ((0 + (Int.toNat (IntKind.i64.wrap ((c2).1 + (1 : Int)))))))).take (((Int.toNat (((a0_1).length : Nat) : Int)) - (Int.toNat (IntKind.i64.wrap ((c2).1 + (1 : Int)))))))).length) : Nat) : Int)) ∧ (((((((Int.toNat (c2).1) - 0) + (((((a0_1).drop ((0 + (Int.toNat (IntKind.i64.wrap ((c2).1 + (1 : Int)))))))).take (((Int.toNat (((a0_1).length : Nat) : Int)) - (Int.toNat (IntKind.i64.wrap ((c2).1 + (1 : Int)))))))).length) : Nat) : Int) ≤ (((a0_1).length : Nat) : Int)) ∧ ((((a0_1).length : Nat) : Int) ≤ (((((overD a0_1 (0 + ((Int.toNat (c2).1) - 0)) ((((a0_1).drop ((0 + (Int.toNat (IntKind.i64.wrap ((c2).1 + (1 : Int)))))))).take (((Int.toNat (((a0_1).length : Nat) : Int)) - (Int.toNat (IntKind.i64.wrap ((c2).1 + (1 : Int))))))))).length - 0) : Nat) : Int)))) (
                    c = (((((overD (overD a0_0 (0 + ((Int.toNat (c2).1) - 0)) ((((a0_0).drop ((0 + (Int.toNat (IntKind.i64.wrap ((c2).1 + (1 : Int)))))))).take (((Int.toNat (((a0_0).length : Nat) : Int)) - (Int.toNat (IntKind.i64.wrap ((c2).1 + (1 : Int)))))))) (0 + (Int.toNat (((((Int.toNat (c2).1) - 0) + (((((a0_0).drop ((0 + (Int.toNat (IntKind.i64.wrap ((c2).1 + (1 : Int)))))))).take (((Int.toNat (((a0_0).length : Nat) : Int)) - (Int.toNat (IntKind.i64.wrap ((c2).1 + (1 : Int)))))))).length) : Nat) : Int))) (List.replicate (((Int.toNat (((a0_0).length : Nat) : Int)) - (Int.toNat (((((Int.toNat (c2).1) - 0) + (((((a0_0).drop ((0 + (Int.toNat (IntKind.i64.wrap ((c2).1 + (1 : Int)))))))).take (((Int.toNat (((a0_0).length : Nat) : Int)) - (Int.toNat (IntKind.i64.wrap ((c2).1 + (1 : Int)))))))).length) : Nat) : Int)))) [(DV.v (Value.int IntKind.i64 (0 : Int))), (DV.v (Value.int IntKind.i64 (0 : Int)))]))).take ((((Int.toNat (c2).1) - 0) + (((((a0_0).drop ((0 + (Int.toNat (IntKind.i64.wrap ((c2).1 + (1 : Int)))))))).take (((Int.toNat (((a0_0).length : Nat) : Int)) - (Int.toNat (IntKind.i64.wrap ((c2).1 + (1 : Int)))))))).length))), ((((overD (overD a0_1 (0 + ((Int.toNat (c2).1) - 0)) ((((a0_1).drop ((0 + (Int.toNat (IntKind.i64.wrap ((c2).1 + (1 : Int)))))))).take (((Int.toNat (((a0_1).length : Nat) : Int)) - (Int.toNat (IntKind.i64.wrap ((c2).1 + (1 : Int)))))))) (0 + (Int.toNat (((((Int.toNat (c2).1) - 0) + (((((a0_1).drop ((0 + (Int.toNat (IntKind.i64.wrap ((c2).1 + (1 : Int)))))))).take (((Int.toNat (((a0_1).length : Nat) : Int)) - (Int.toNat (IntKind.i64.wrap ((c2).1 + (1 : Int)))))))).length) : Nat) : Int))) (List.replicate (((Int.toNat (((a0_1).length : Nat) : Int)) - (Int.toNat (((((Int.toNat (c2).1) - 0) + (((((a0_1).drop ((0 + (Int.toNat (IntKind.i64.wrap ((c2).1 + (1 : Int)))))))).take (((Int.toNat (((a0_1).length : Nat) : Int)) - (Int.toNat (IntKind.i64.wrap ((c2).1 + (1 : Int)))))))).length) : Nat) : Int)))) [(DV.v (Value.int IntKind.i64 (0 : Int)))]))).take ((((Int.toNat (c2).1) - 0) + (((((a0_1).drop ((0 + (Int.toNat (IntKind.i64.wrap ((c2).1 + (1 : Int)))))))).take (((Int.toNat (((a0_1).length : Nat) : Int)) - (Int.toNat (IntKind.i64.wrap ((c2).1 + (1 : Int)))))))).length))), (a0_2, ()))), ((0 : Int), ())))))))))))))))))))))))) (
          cond ((a1_0 == (2 : Int))) (
            cond (decide (((c3).1 < (0 : Int)))) (
              c = ((a0_0, (a0_1, (a0_2, ()))), ((7 : Int), ()))) (
              cond (decide (((c2).1 ≥ (0 : Int)))) (
                c = ((a0_0, (a0_1, (a0_2, ()))), ((8 : Int), ()))) (
                cond ((a1_0 == (1 : Int))) (
                  optAll (ghost_born.R a0_0 a0_1 a0_2 a1_1 a1_2 (-1 : Int)) fun (c4 : ((List (List DV) × (List (List DV) × (List (List DV) × Unit))) × (Int × Unit))) =>
                  c = ((((c4).1).1, ((((c4).1).2).1, (((((c4).1).2).2).1, ()))), (((c4).2).1, ()))) (
                  cond ((a1_0 == (2 : Int))) (
                    needs ((0 : Int) ≤ (c3).1) (
                    optAll ((a0_1)[(Int.toNat (c3).1)]?) fun (r5 : List DV) =>
                    optAll ((dInt IntKind.i64 r5 0)) fun (z6 : Int) =>
                    optAll (ghost_born.R a0_0 a0_1 a0_2 a1_1 a1_2 z6) fun (c7 : ((List (List DV) × (List (List DV) × (List (List DV) × Unit))) × (Int × Unit))) =>
                    c = ((((c7).1).1, ((((c7).1).2).1, (((((c7).1).2).2).1, ()))), (((c7).2).1, ())))) (
                    needs ((((a0_0).length * 16) ≤ 140737488355328) ∧ (((a0_0).length * 2) ≤ 140737488355328)) (
                    needs (((0 : Int) ≤ (c3).1) ∧ ((c3).1 < (((a0_0).length : Nat) : Int))) (
                    optAll ((a0_0)[(0 + (Int.toNat (c3).1))]?) fun (r8 : List DV) =>
                    needs (2 ≤ (r8).length) (
                    c = ((((((a0_0).set ((0 + (Int.toNat (c3).1))) (putD r8 0 [(DV.v (Value.int IntKind.i64 a1_1)), (DV.v (Value.int IntKind.i64 a1_2))]))).take ((a0_0).length)), (a0_1, (a0_2, ()))), ((0 : Int), ())))))))))) (
            cond ((a1_0 == (3 : Int))) (
              cond (decide (((c3).1 < (0 : Int)))) (
                c = ((a0_0, (a0_1, (a0_2, ()))), ((7 : Int), ()))) (
                cond (decide (((c2).1 ≥ (0 : Int)))) (
                  c = ((a0_0, (a0_1, (a0_2, ()))), ((8 : Int), ()))) (
                  cond ((a1_0 == (1 : Int))) (
                    optAll (ghost_born.R a0_0 a0_1 a0_2 a1_1 a1_2 (-1 : Int)) fun (c9 : ((List (List DV) × (List (List DV) × (List (List DV) × Unit))) × (Int × Unit))) =>
                    c = ((((c9).1).1, ((((c9).1).2).1, (((((c9).1).2).2).1, ()))), (((c9).2).1, ()))) (
                    cond ((a1_0 == (2 : Int))) (
                      needs ((0 : Int) ≤ (c3).1) (
                      optAll ((a0_1)[(Int.toNat (c3).1)]?) fun (r10 : List DV) =>
                      optAll ((dInt IntKind.i64 r10 0)) fun (z11 : Int) =>
                      optAll (ghost_born.R a0_0 a0_1 a0_2 a1_1 a1_2 z11) fun (c12 : ((List (List DV) × (List (List DV) × (List (List DV) × Unit))) × (Int × Unit))) =>
                      c = ((((c12).1).1, ((((c12).1).2).1, (((((c12).1).2).2).1, ()))), (((c12).2).1, ())))) (
                      needs ((((a0_0).length * 16) ≤ 140737488355328) ∧ (((a0_0).length * 2) ≤ 140737488355328)) (
                      needs (((0 : Int) ≤ (c3).1) ∧ ((c3).1 < (((a0_0).length : Nat) : Int))) (
                      optAll ((a0_0)[(0 + (Int.toNat (c3).1))]?) fun (r13 : List DV) =>
                      needs (2 ≤ (r13).length) (
                      c = ((((((a0_0).set ((0 + (Int.toNat (c3).1))) (putD r13 0 [(DV.v (Value.int IntKind.i64 a1_1)), (DV.v (Value.int IntKind.i64 a1_2))]))).take ((a0_0).length)), (a0_1, (a0_2, ()))), ((0 : Int), ())))))))))) (
              cond (decide (((c2).1 ≥ (0 : Int)))) (
                c = ((a0_0, (a0_1, (a0_2, ()))), ((8 : Int), ()))) (
                cond ((a1_0 == (1 : Int))) (
                  optAll (ghost_born.R a0_0 a0_1 a0_2 a1_1 a1_2 (-1 : Int)) fun (c14 : ((List (List DV) × (List (List DV) × (List (List DV) × Unit))) × (Int × Unit))) =>
                  c = ((((c14).1).1, ((((c14).1).2).1, (((((c14).1).2).2).1, ()))), (((c14).2).1, ()))) (
                  cond ((a1_0 == (2 : Int))) (
                    needs ((0 : Int) ≤ (c3).1) (
                    optAll ((a0_1)[(Int.toNat (c3).1)]?) fun (r15 : List DV) =>
                    optAll ((dInt IntKind.i64 r15 0)) fun (z16 : Int) =>
                    optAll (ghost_born.R a0_0 a0_1 a0_2 a1_1 a1_2 z16) fun (c17 : ((List (List DV) × (List (List DV) × (List (List DV) × Unit))) × (Int × Unit))) =>
                    c = ((((c17).1).1, ((((c17).1).2).1, (((((c17).1).2).2).1, ()))), (((c17).2).1, ())))) (
                    needs ((((a0_0).length * 16) ≤ 140737488355328) ∧ (((a0_0).length * 2) ≤ 140737488355328)) (
                    needs (((0 : Int) ≤ (c3).1) ∧ ((c3).1 < (((a0_0).length : Nat) : Int))) (
                    optAll ((a0_0)[(0 + (Int.toNat (c3).1))]?) fun (r18 : List DV) =>
                    needs (2 ≤ (r18).length) (
                    c = ((((((a0_0).set ((0 + (Int.toNat (c3).1))) (putD r18 0 [(DV.v (Value.int IntKind.i64 a1_1)), (DV.v (Value.int IntKind.i64 a1_2))]))).take ((a0_0).length)), (a0_1, (a0_2, ()))), ((0 : Int), ())))))))))))))) : R a0_0 a0_1 a0_2 a1_0 a1_1 a1_2 a1_3 a1_4 = some c := start_rule (n := 400) (lv := lv) (partSum_ok _) (by kernel_rfl) h
end ghost_Add
/-! garrison/garrisonlaw14.GhostTree -/
namespace law14_GhostTree
def lv : Live := [((7, 1048576), [0, 4, 5, 7, 8, 9], [130, 146, 8])]
abbrev H7 (x0 : List (List DV)) (x7 : List (List DV)) (b8 : List (List DV)) (x9 : Int) (b130 : Int) (b130_1 : Int) (b146 : Int) (b146_1 : Int) (c : (Bool × Unit)) : Prop := HeadAns cfg 16 sh lv (bd cfg 16 [1, 1, 1, 1, 0, 1, 0, 0]) 1048576 [.inBlock 0, .code (bd cfg 16 [1, 1, 1, 1, 1])]
  [(AV.d (DV.lst 5 x0)), (AV.ptr 130 0 0 0), (AV.ptr 146 0 0 0), (AV.d (DV.lst 4 x7)), (AV.ref 8 0 0 (List.length b8)), (AV.d (DV.v (Value.int IntKind.i64 x9)))] [(Option.some (VBlk.cell 2 0 [(AV.d (DV.v (Value.int IntKind.i64 b130))), (AV.d (DV.v (Value.int IntKind.i64 b130_1)))])), (Option.some (VBlk.cell 2 0 [(AV.d (DV.v (Value.int IntKind.i64 b146))), (AV.d (DV.v (Value.int IntKind.i64 b146_1)))])), (Option.some (VBlk.drow 5 0 b8))] 1048576 c
theorem start (a0 : List (List DV)) (a1_0 : Int) (a1_1 : Int) (a2_0 : Int) (a2_1 : Int) (c : (Bool × Unit)) (h :
    cond (decide (((((a0).length : Nat) : Int) > (80 : Int)))) (
      optAll (law14_live.R) fun (c0 : (Bool × Unit)) =>
      c = ((c0).1, ())) (
      H7 a0 [] [] (0 : Int) a1_0 a1_1 a2_0 a2_1 c)) : R a0 a1_0 a1_1 a2_0 a2_1 = some c := start_rule (n := 400) (lv := lv) (noSum_ok _) (by kernel_rfl) h
theorem H7_step (x0 : List (List DV)) (x7 : List (List DV)) (b8 : List (List DV)) (x9 : Int) (b130 : Int) (b130_1 : Int) (b146 : Int) (b146_1 : Int) (c : (Bool × Unit)) (h :
    cond (decide ((x9 < (((x0).length : Nat) : Int)))) (
      needs ((0 : Int) ≤ x9) (
      optAll ((x0)[(Int.toNat x9)]?) fun (r1 : List DV) =>
      optAll ((dInt IntKind.i64 r1 0)) fun (z2 : Int) =>
      optAll ((dInt IntKind.i64 r1 1)) fun (z3 : Int) =>
      optAll ((dInt IntKind.i64 r1 2)) fun (z4 : Int) =>
      optAll ((dInt IntKind.i64 r1 3)) fun (z5 : Int) =>
      optAll ((dInt IntKind.i64 r1 4)) fun (z6 : Int) =>
      cond ((z2 == (1 : Int))) (
        optAll (tree_Root.R x7 z3 z4) fun (c7 : (List (List DV) × (Int × Unit))) =>
        optAll (law14_num.R ((c7).2).1) fun (c8 : (Int × Unit)) =>
        cond (((c8).1 == (0 : Int))) (
          needs ((b8).length = (b8).length) (
          needs (((((b8 ++ (([[(DV.v (Value.int IntKind.i64 z2)), (DV.v (Value.int IntKind.i64 z3)), (DV.v (Value.int IntKind.i64 z4)), (DV.v (Value.int IntKind.i64 z5)), (DV.v (Value.int IntKind.i64 z6))]]).take (1)))).length * 40) ≤ 140737488355328) ∧ ((((b8 ++ (([[(DV.v (Value.int IntKind.i64 z2)), (DV.v (Value.int IntKind.i64 z3)), (DV.v (Value.int IntKind.i64 z4)), (DV.v (Value.int IntKind.i64 z5)), (DV.v (Value.int IntKind.i64 z6))]]).take (1)))).length * 5) ≤ 140737488355328)) (
          H7 x0 (c7).1 (b8 ++ (([[(DV.v (Value.int IntKind.i64 z2)), (DV.v (Value.int IntKind.i64 z3)), (DV.v (Value.int IntKind.i64 z4)), (DV.v (Value.int IntKind.i64 z5)), (DV.v (Value.int IntKind.i64 z6))]]).take (1))) (IntKind.i64.wrap (x9 + (1 : Int))) b130 b130_1 b146 b146_1 c))) (
          H7 x0 (c7).1 b8 (IntKind.i64.wrap (x9 + (1 : Int))) b130 b130_1 b146 b146_1 c)) (
        cond ((z2 == (2 : Int))) (
          optAll (tree_Insert.R x7 z5 z6 z3 z4) fun (c9 : (List (List DV) × (Int × Unit))) =>
          optAll (law14_num.R ((c9).2).1) fun (c10 : (Int × Unit)) =>
          cond (((c10).1 == (0 : Int))) (
            needs ((b8).length = (b8).length) (
            needs (((((b8 ++ (([[(DV.v (Value.int IntKind.i64 z2)), (DV.v (Value.int IntKind.i64 z3)), (DV.v (Value.int IntKind.i64 z4)), (DV.v (Value.int IntKind.i64 z5)), (DV.v (Value.int IntKind.i64 z6))]]).take (1)))).length * 40) ≤ 140737488355328) ∧ ((((b8 ++ (([[(DV.v (Value.int IntKind.i64 z2)), (DV.v (Value.int IntKind.i64 z3)), (DV.v (Value.int IntKind.i64 z4)), (DV.v (Value.int IntKind.i64 z5)), (DV.v (Value.int IntKind.i64 z6))]]).take (1)))).length * 5) ≤ 140737488355328)) (
            H7 x0 (c9).1 (b8 ++ (([[(DV.v (Value.int IntKind.i64 z2)), (DV.v (Value.int IntKind.i64 z3)), (DV.v (Value.int IntKind.i64 z4)), (DV.v (Value.int IntKind.i64 z5)), (DV.v (Value.int IntKind.i64 z6))]]).take (1))) (IntKind.i64.wrap (x9 + (1 : Int))) b130 b130_1 b146 b146_1 c))) (
            H7 x0 (c9).1 b8 (IntKind.i64.wrap (x9 + (1 : Int))) b130 b130_1 b146 b146_1 c)) (
          cond ((z2 == (3 : Int))) (
            optAll (tree_Move.R x7 z5 z6 z3 z4) fun (c11 : (List (List DV) × (Int × Unit))) =>
            optAll (law14_num.R ((c11).2).1) fun (c12 : (Int × Unit)) =>
            cond (((c12).1 == (0 : Int))) (
              needs ((b8).length = (b8).length) (
              needs (((((b8 ++ (([[(DV.v (Value.int IntKind.i64 z2)), (DV.v (Value.int IntKind.i64 z3)), (DV.v (Value.int IntKind.i64 z4)), (DV.v (Value.int IntKind.i64 z5)), (DV.v (Value.int IntKind.i64 z6))]]).take (1)))).length * 40) ≤ 140737488355328) ∧ ((((b8 ++ (([[(DV.v (Value.int IntKind.i64 z2)), (DV.v (Value.int IntKind.i64 z3)), (DV.v (Value.int IntKind.i64 z4)), (DV.v (Value.int IntKind.i64 z5)), (DV.v (Value.int IntKind.i64 z6))]]).take (1)))).length * 5) ≤ 140737488355328)) (
              H7 x0 (c11).1 (b8 ++ (([[(DV.v (Value.int IntKind.i64 z2)), (DV.v (Value.int IntKind.i64 z3)), (DV.v (Value.int IntKind.i64 z4)), (DV.v (Value.int IntKind.i64 z5)), (DV.v (Value.int IntKind.i64 z6))]]).take (1))) (IntKind.i64.wrap (x9 + (1 : Int))) b130 b130_1 b146 b146_1 c))) (
              H7 x0 (c11).1 b8 (IntKind.i64.wrap (x9 + (1 : Int))) b130 b130_1 b146 b146_1 c)) (
            cond ((z2 == (4 : Int))) (
              optAll (tree_Remove.R x7 z3 z4) fun (c13 : (List (List DV) × (Int × Unit))) =>
              optAll (law14_num.R ((c13).2).1) fun (c14 : (Int × Unit)) =>
              cond (((c14).1 == (0 : Int))) (
                needs ((b8).length = (b8).length) (
                needs (((((b8 ++ (([[(DV.v (Value.int IntKind.i64 z2)), (DV.v (Value.int IntKind.i64 z3)), (DV.v (Value.int IntKind.i64 z4)), (DV.v (Value.int IntKind.i64 z5)), (DV.v (Value.int IntKind.i64 z6))]]).take (1)))).length * 40) ≤ 140737488355328) ∧ ((((b8 ++ (([[(DV.v (Value.int IntKind.i64 z2)), (DV.v (Value.int IntKind.i64 z3)), (DV.v (Value.int IntKind.i64 z4)), (DV.v (Value.int IntKind.i64 z5)), (DV.v (Value.int IntKind.i64 z6))]]).take (1)))).length * 5) ≤ 140737488355328)) (
                H7 x0 (c13).1 (b8 ++ (([[(DV.v (Value.int IntKind.i64 z2)), (DV.v (Value.int IntKind.i64 z3)), (DV.v (Value.int IntKind.i64 z4)), (DV.v (Value.int IntKind.i64 z5)), (DV.v (Value.int IntKind.i64 z6))]]).take (1))) (IntKind.i64.wrap (x9 + (1 : Int))) b130 b130_1 b146 b146_1 c))) (
                H7 x0 (c13).1 b8 (IntKind.i64.wrap (x9 + (1 : Int))) b130 b130_1 b146 b146_1 c)) (
              optAll (law14_num.R (2 : Int)) fun (c15 : (Int × Unit)) =>
              cond (((c15).1 == (0 : Int))) (
                needs ((b8).length = (b8).length) (
                needs (((((b8 ++ (([[(DV.v (Value.int IntKind.i64 z2)), (DV.v (Value.int IntKind.i64 z3)), (DV.v (Value.int IntKind.i64 z4)), (DV.v (Value.int IntKind.i64 z5)), (DV.v (Value.int IntKind.i64 z6))]]).take (1)))).length * 40) ≤ 140737488355328) ∧ ((((b8 ++ (([[(DV.v (Value.int IntKind.i64 z2)), (DV.v (Value.int IntKind.i64 z3)), (DV.v (Value.int IntKind.i64 z4)), (DV.v (Value.int IntKind.i64 z5)), (DV.v (Value.int IntKind.i64 z6))]]).take (1)))).length * 5) ≤ 140737488355328)) (
                H7 x0 x7 (b8 ++ (([[(DV.v (Value.int IntKind.i64 z2)), (DV.v (Value.int IntKind.i64 z3)), (DV.v (Value.int IntKind.i64 z4)), (DV.v (Value.int IntKind.i64 z5)), (DV.v (Value.int IntKind.i64 z6))]]).take (1))) (IntKind.i64.wrap (x9 + (1 : Int))) b130 b130_1 b146 b146_1 c))) (
                H7 x0 x7 b8 (IntKind.i64.wrap (x9 + (1 : Int))) b130 b130_1 b146 b146_1 c))))))) (
      optAll (ghost_Run.R ((b8).take ((b8).length))) fun (c16 : ((List (List DV) × (List (List DV) × (List (List DV) × Unit))) × (Int × Unit))) =>
      optAll (ghost_Who.R ((c16).1).1 (((c16).1).2).1 ((((c16).1).2).2).1 b130 b130_1) fun (c17 : (Int × (Bool × Unit))) =>
      optAll (tree_Find.R x7 b130 b130_1) fun (c18 : (Int × (Bool × Unit))) =>
      cond ((((c16).2).1 == (0 : Int))) (
        cond ((((c17).2).1 == ((c18).2).1)) (
          cond (((((((c16).1).1).length : Nat) : Int) == (((x7).length : Nat) : Int))) (
            optAll (ghost_Descends.R ((c16).1).1 (((c16).1).2).1 ((((c16).1).2).2).1 b130 b130_1 b146 b146_1) fun (c19 : (Bool × Unit)) =>
            optAll (tree_Descends.R x7 b130 b130_1 b146 b146_1) fun (c20 : (Bool × Unit)) =>
            cond (((c19).1 == (c20).1)) (
              optAll (law14_live.R) fun (c21 : (Bool × Unit)) =>
              c = ((c21).1, ())) (
              c = (false, ()))) (
            c = (false, ()))) (
          c = (false, ()))) (
        c = (false, ())))) : H7 x0 x7 b8 x9 b130 b130_1 b146 b146_1 c := head_rule (n := 400) (noSum_ok _) (by kernel_rfl) h
end law14_GhostTree
end Go.AI
