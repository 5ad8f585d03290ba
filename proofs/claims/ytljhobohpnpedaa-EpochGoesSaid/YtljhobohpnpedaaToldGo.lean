/-
  Own work: printed by Tell, a program of this work: what each function's body does over symbols.
-/
import Derived.Test.YtljhobohpnpedaaTold
import Derived.KernelRfl
namespace Go.AI
open Go
set_option maxRecDepth 100000
set_option linter.unusedVariables false
set_option linter.unusedSimpArgs false
/-! garrison/garrisonlaw11.EpochGoes -/
namespace law11_EpochGoes
abbrev sh : List Sh := [.one (.bool)]
noncomputable abbrev R (a0 : Int) (a1 : List (List DV)) : Option (Bool × Unit) := retω cfg sh 6 [(AV.d (DV.v (Value.int IntKind.i64 a0))), (AV.d (DV.lst 3 a1))]
end law11_EpochGoes
/-! garrison/garrisonlaw11.EpochGoes -/
namespace law11_EpochGoes
def lv : Live := [((8, 1048576), [0, 1, 5, 7], [428, 11, 9]), ((12, 2097152), [0, 5, 8], [428, 11, 9]), ((17, 3145728), [0, 5, 9, 10], [428, 9, 11]), ((21, 4194304), [0, 5, 9, 10, 11, 12], [428, 9, 11]), ((30, 4194304), [0, 5, 9, 15], [428, 9, 11]), ((17, 3145728), [0, 5, 9, 10], [428, 9, 11]), ((30, 4194304), [0, 5, 9, 15], [428, 9, 11])]
abbrev H8 (x0 : Int) (x1 : List (List DV)) (x7 : Int) (b428 : Int) (b428_1 : List (List DV)) (b428_2 : List (List DV)) (c : (Bool × Unit)) : Prop := HeadAns cfg 6 sh lv (bd cfg 6 [1, 1, 1, 1, 0, 1, 0, 0]) 1048576 [.inBlock 0, .code (bd cfg 6 [1, 1, 1, 1, 1])]
  [(AV.d (DV.v (Value.int IntKind.i64 x0))), (AV.d (DV.lst 3 x1)), (AV.ptr 428 0 0 0), (AV.d (DV.v (Value.int IntKind.i64 x7)))] [(Option.some (VBlk.cell 3 0 [(AV.d (DV.v (Value.int IntKind.i64 b428))), (AV.d (DV.lst 1 b428_1)), (AV.d (DV.lst 1 b428_2))])), (Option.none), (Option.none)] 1048576 c
abbrev H12 (x0 : Int) (x8 : Int) (b428 : Int) (b428_1 : List (List DV)) (b428_2 : List (List DV)) (c : (Bool × Unit)) : Prop := HeadAns cfg 6 sh lv (bd cfg 6 [1, 1, 1, 1, 1, 0, 1, 0, 0]) 2097152 [.inBlock 2, .code (bd cfg 6 [1, 1, 1, 1, 1, 1])]
  [(AV.d (DV.v (Value.int IntKind.i64 x0))), (AV.ptr 428 0 0 0), (AV.d (DV.v (Value.int IntKind.i64 x8)))] [(Option.some (VBlk.cell 3 0 [(AV.d (DV.v (Value.int IntKind.i64 b428))), (AV.d (DV.lst 1 b428_1)), (AV.d (DV.lst 1 b428_2))])), (Option.none), (Option.none)] 2097152 c
abbrev H17 (x0 : Int) (b9 : List (List DV)) (x10 : Int) (b428 : Int) (b428_1 : List (List DV)) (b428_2 : List (List DV)) (c : (Bool × Unit)) : Prop := HeadAns cfg 6 sh lv (bd cfg 6 [1, 1, 1, 1, 1, 1, 1, 0, 1, 0, 0]) 3145728 [.inBlock 4, .code (bd cfg 6 [1, 1, 1, 1, 1, 1, 1, 1])]
  [(AV.d (DV.v (Value.int IntKind.i64 x0))), (AV.ptr 428 0 0 0), (AV.ref 9 0 0 (List.length b9)), (AV.d (DV.v (Value.int IntKind.i64 x10)))] [(Option.some (VBlk.cell 3 0 [(AV.d (DV.v (Value.int IntKind.i64 b428))), (AV.d (DV.lst 1 b428_1)), (AV.d (DV.lst 1 b428_2))])), (Option.some (VBlk.drow 1 0 b9)), (Option.none)] 3145728 c
abbrev H21 (x0 : Int) (b9 : List (List DV)) (x10 : Int) (b11 : List (List DV)) (x12 : Int) (b428 : Int) (b428_1 : List (List DV)) (b428_2 : List (List DV)) (c : (Bool × Unit)) : Prop := HeadAns cfg 6 sh lv (bd cfg 6 [1, 1, 1, 1, 1, 1, 1, 0, 1, 0, 0, 1, 0, 0, 1, 0, 1, 0, 0]) 4194304 [.inBlock 6, .code (bd cfg 6 [1, 1, 1, 1, 1, 1, 1, 0, 1, 0, 0, 1, 0, 0, 1, 1]), .inBlock 5, .code (bd cfg 6 [1, 1, 1, 1, 1, 1, 1, 0, 1, 0, 0, 1, 1]), .inLoop (bd cfg 6 [1, 1, 1, 1, 1, 1, 1, 0, 1, 0, 0]) 3145728, .inBlock 4, .code (bd cfg 6 [1, 1, 1, 1, 1, 1, 1, 1])]
  [(AV.d (DV.v (Value.int IntKind.i64 x0))), (AV.ptr 428 0 0 0), (AV.ref 9 0 0 (List.length b9)), (AV.d (DV.v (Value.int IntKind.i64 x10))), (AV.ref 11 0 0 (List.length b11)), (AV.d (DV.v (Value.int IntKind.i64 x12)))] [(Option.some (VBlk.cell 3 0 [(AV.d (DV.v (Value.int IntKind.i64 b428))), (AV.d (DV.lst 1 b428_1)), (AV.d (DV.lst 1 b428_2))])), (Option.some (VBlk.drow 1 0 b9)), (Option.some (VBlk.drow 1 0 b11))] 4194304 c
abbrev H30 (x0 : Int) (b9 : List (List DV)) (x15 : Int) (b428 : Int) (b428_1 : List (List DV)) (b428_2 : List (List DV)) (c : (Bool × Unit)) : Prop := HeadAns cfg 6 sh lv (bd cfg 6 [1, 1, 1, 1, 1, 1, 1, 1, 1, 1, 1, 0, 1, 0, 0]) 4194304 [.inBlock 8, .code (bd cfg 6 [1, 1, 1, 1, 1, 1, 1, 1, 1, 1, 1, 1])]
  [(AV.d (DV.v (Value.int IntKind.i64 x0))), (AV.ptr 428 0 0 0), (AV.ref 9 0 0 (List.length b9)), (AV.d (DV.v (Value.int IntKind.i64 x15)))] [(Option.some (VBlk.cell 3 0 [(AV.d (DV.v (Value.int IntKind.i64 b428))), (AV.d (DV.lst 1 b428_1)), (AV.d (DV.lst 1 b428_2))])), (Option.some (VBlk.drow 1 0 b9)), (Option.none)] 4194304 c
abbrev H17_3145728 (x0 : Int) (b9 : List (List DV)) (x10 : Int) (b428 : Int) (b428_1 : List (List DV)) (b428_2 : List (List DV)) (b11 : List (List DV)) (c : (Bool × Unit)) : Prop := HeadAns cfg 6 sh lv (bd cfg 6 [1, 1, 1, 1, 1, 1, 1, 0, 1, 0, 0]) 3145728 [.inBlock 4, .code (bd cfg 6 [1, 1, 1, 1, 1, 1, 1, 1])]
  [(AV.d (DV.v (Value.int IntKind.i64 x0))), (AV.ptr 428 0 0 0), (AV.ref 9 0 0 (List.length b9)), (AV.d (DV.v (Value.int IntKind.i64 x10)))] [(Option.some (VBlk.cell 3 0 [(AV.d (DV.v (Value.int IntKind.i64 b428))), (AV.d (DV.lst 1 b428_1)), (AV.d (DV.lst 1 b428_2))])), (Option.some (VBlk.drow 1 0 b9)), (Option.some (VBlk.drow 1 0 b11))] 3145728 c
abbrev H30_4194304 (x0 : Int) (b9 : List (List DV)) (x15 : Int) (b428 : Int) (b428_1 : List (List DV)) (b428_2 : List (List DV)) (b11 : List (List DV)) (c : (Bool × Unit)) : Prop := HeadAns cfg 6 sh lv (bd cfg 6 [1, 1, 1, 1, 1, 1, 1, 1, 1, 1, 1, 0, 1, 0, 0]) 4194304 [.inBlock 8, .code (bd cfg 6 [1, 1, 1, 1, 1, 1, 1, 1, 1, 1, 1, 1])]
  [(AV.d (DV.v (Value.int IntKind.i64 x0))), (AV.ptr 428 0 0 0), (AV.ref 9 0 0 (List.length b9)), (AV.d (DV.v (Value.int IntKind.i64 x15)))] [(Option.some (VBlk.cell 3 0 [(AV.d (DV.v (Value.int IntKind.i64 b428))), (AV.d (DV.lst 1 b428_1)), (AV.d (DV.lst 1 b428_2))])), (Option.some (VBlk.drow 1 0 b9)), (Option.some (VBlk.drow 1 0 b11))] 4194304 c
theorem start (a0 : Int) (a1 : List (List DV)) (c : (Bool × Unit)) (h :
    cond (decide ((a0 < (1 : Int)))) (
      optAll (law11_live.R) fun (c0 : (Bool × Unit)) =>
      c = ((c0).1, ())) (
      cond (decide ((a0 > (64 : Int)))) (
        optAll (law11_live.R) fun (c1 : (Bool × Unit)) =>
        c = ((c1).1, ())) (
        cond (decide (((((a1).length : Nat) : Int) > (120 : Int)))) (
          optAll (law11_live.R) fun (c2 : (Bool × Unit)) =>
          c = ((c2).1, ())) (
          optAll (epoch_New.R a0) fun (c3 : ((Int × (List (List DV) × (List (List DV) × Unit))) × (Int × Unit))) =>
          optAll (law11_num.R ((c3).2).1) fun (c4 : (Int × Unit)) =>
          cond (((c4).1 != (0 : Int))) (
            c = (false, ())) (
            H8 a0 a1 (0 : Int) ((c3).1).1 (((c3).1).2).1 ((((c3).1).2).2).1 c))))) : R a0 a1 = some c := start_rule (n := 400) (lv := lv) (noSum_ok _) (by kernel_rfl) h
theorem H8_step (x0 : Int) (x1 : List (List DV)) (x7 : Int) (b428 : Int) (b428_1 : List (List DV)) (b428_2 : List (List DV)) (c : (Bool × Unit)) (h :
    cond (decide ((x7 < (((x1).length : Nat) : Int)))) (
      needs ((0 : Int) ≤ x7) (
      optAll ((x1)[(Int.toNat x7)]?) fun (r5 : List DV) =>
      optAll ((dInt IntKind.i64 r5 0)) fun (z6 : Int) =>
      optAll ((dInt IntKind.i64 r5 1)) fun (z7 : Int) =>
      optAll ((dInt IntKind.i64 r5 2)) fun (z8 : Int) =>
      optAll (law11_does.R b428 b428_1 b428_2 z6 z7 z8) fun (c9 : ((Int × (List (List DV) × (List (List DV) × Unit))) × (List (List DV) × (Int × Unit)))) =>
      H8 x0 x1 (IntKind.i64.wrap (x7 + (1 : Int))) ((c9).1).1 (((c9).1).2).1 ((((c9).1).2).2).1 c)) (
      H12 x0 (0 : Int) b428 b428_1 b428_2 c)) : H8 x0 x1 x7 b428 b428_1 b428_2 c := head_rule (n := 400) (noSum_ok _) (by kernel_rfl) h
theorem H12_step (x0 : Int) (x8 : Int) (b428 : Int) (b428_1 : List (List DV)) (b428_2 : List (List DV)) (c : (Bool × Unit)) (h :
    cond (decide ((x8 < x0))) (
      optAll (epoch_Unpin.R b428 b428_1 b428_2 x8) fun (c10 : ((Int × (List (List DV) × (List (List DV) × Unit))) × (Int × Unit))) =>
      H12 x0 (IntKind.i64.wrap (x8 + (1 : Int))) ((c10).1).1 (((c10).1).2).1 ((((c10).1).2).2).1 c) (
      H17 x0 [] (0 : Int) b428 b428_1 b428_2 c)) : H12 x0 x8 b428 b428_1 b428_2 c := head_rule (n := 400) (noSum_ok _) (by kernel_rfl) h
theorem H17_step (x0 : Int) (b9 : List (List DV)) (x10 : Int) (b428 : Int) (b428_1 : List (List DV)) (b428_2 : List (List DV)) (c : (Bool × Unit)) (h :
    cond (decide ((x10 < (((b428_2).length : Nat) : Int)))) (
      H21 x0 b9 x10 [] (0 : Int) b428 b428_1 b428_2 c) (
      optAll (epoch_Advance.R b428 b428_1 b428_2) fun (c11 : ((Int × (List (List DV) × (List (List DV) × Unit))) × (Bool × Unit))) =>
      optAll (epoch_Advance.R ((c11).1).1 (((c11).1).2).1 ((((c11).1).2).2).1) fun (c12 : ((Int × (List (List DV) × (List (List DV) × Unit))) × (Bool × Unit))) =>
      cond ((!((c11).2).1)) (
        c = (false, ())) (
        cond ((!((c12).2).1)) (
          c = (false, ())) (
          cond (((((b9).length : Nat) : Int) != x0)) (
            c = (false, ())) (
            H30 x0 b9 (0 : Int) ((c12).1).1 (((c12).1).2).1 ((((c12).1).2).2).1 c))))) : H17 x0 b9 x10 b428 b428_1 b428_2 c := head_rule (n := 400) (noSum_ok _) (by kernel_rfl) h
theorem H21_step (x0 : Int) (b9 : List (List DV)) (x10 : Int) (b11 : List (List DV)) (x12 : Int) (b428 : Int) (b428_1 : List (List DV)) (b428_2 : List (List DV)) (c : (Bool × Unit)) (h :
    needs ((0 : Int) ≤ x10) (
    optAll ((b428_2)[(Int.toNat x10)]?) fun (r13 : List DV) =>
    optAll ((dLst 2 r13 0)) fun (l14 : List (List DV)) =>
    cond (decide ((x12 < (((l14).length : Nat) : Int)))) (
      needs ((0 : Int) ≤ x10) (
      optAll ((b428_2)[(Int.toNat x10)]?) fun (r15 : List DV) =>
      optAll ((dLst 2 r15 0)) fun (l16 : List (List DV)) =>
      needs ((0 : Int) ≤ x12) (
      optAll ((l16)[(Int.toNat x12)]?) fun (r17 : List DV) =>
      optAll ((dInt IntKind.i64 r17 0)) fun (z18 : Int) =>
      needs ((b11).length = (b11).length) (
      needs (((((b11 ++ (([[(DV.v (Value.int IntKind.i64 z18))]]).take (1)))).length * 8) ≤ 140737488355328) ∧ ((((b11 ++ (([[(DV.v (Value.int IntKind.i64 z18))]]).take (1)))).length * 1) ≤ 140737488355328)) (
      H21 x0 b9 x10 (b11 ++ (([[(DV.v (Value.int IntKind.i64 z18))]]).take (1))) (IntKind.i64.wrap (x12 + (1 : Int))) b428 b428_1 b428_2 c))))) (
      needs ((b9).length = (b9).length) (
      needs (((((b9 ++ (([[(DV.lst 1 ((b11).take ((b11).length)))]]).take (1)))).length * 24) ≤ 140737488355328) ∧ ((((b9 ++ (([[(DV.lst 1 ((b11).take ((b11).length)))]]).take (1)))).length * 1) ≤ 140737488355328)) (
      H17_3145728 x0 (b9 ++ (([[(DV.lst 1 ((b11).take ((b11).length)))]]).take (1))) (IntKind.i64.wrap (x10 + (1 : Int))) b428 b428_1 b428_2 [] c))))) : H21 x0 b9 x10 b11 x12 b428 b428_1 b428_2 c := head_rule (n := 400) (noSum_ok _) (by kernel_rfl) h
theorem H30_step (x0 : Int) (b9 : List (List DV)) (x15 : Int) (b428 : Int) (b428_1 : List (List DV)) (b428_2 : List (List DV)) (c : (Bool × Unit)) (h :
    cond (decide ((x15 < x0))) (
      optAll (epoch_Reap.R b428 b428_1 b428_2 x15) fun (c19 : ((Int × (List (List DV) × (List (List DV) × Unit))) × (List (List DV) × Unit))) =>
      needs (((0 : Int) ≤ x15) ∧ (x15 < (((b9).length : Nat) : Int))) (
      optAll ((b9)[(0 + (Int.toNat x15))]?) fun (r20 : List DV) =>
      optAll ((dLst 1 r20 0)) fun (l21 : List (List DV)) =>
      optAll (ref07_Ints.R ((c19).2).1 l21) fun (c22 : (Bool × Unit)) =>
      cond ((!(c22).1)) (
        c = (false, ())) (
        cond (((((((((c19).1).2).2).1).length : Nat) : Int) != x0)) (
          c = (false, ())) (
          needs ((0 : Int) ≤ x15) (
          optAll ((((((c19).1).2).2).1)[(Int.toNat x15)]?) fun (r23 : List DV) =>
          optAll ((dLst 2 r23 0)) fun (l24 : List (List DV)) =>
          cond (((((l24).length : Nat) : Int) != (0 : Int))) (
            c = (false, ())) (
            H30 x0 b9 (IntKind.i64.wrap (x15 + (1 : Int))) ((c19).1).1 (((c19).1).2).1 ((((c19).1).2).2).1 c)))))) (
      optAll (law11_live.R) fun (c25 : (Bool × Unit)) =>
      c = ((c25).1, ()))) : H30 x0 b9 x15 b428 b428_1 b428_2 c := head_rule (n := 400) (noSum_ok _) (by kernel_rfl) h
theorem H17_3145728_step (x0 : Int) (b9 : List (List DV)) (x10 : Int) (b428 : Int) (b428_1 : List (List DV)) (b428_2 : List (List DV)) (b11 : List (List DV)) (c : (Bool × Unit)) (h :
    cond (decide ((x10 < (((b428_2).length : Nat) : Int)))) (
      H21 x0 b9 x10 [] (0 : Int) b428 b428_1 b428_2 c) (
      optAll (epoch_Advance.R b428 b428_1 b428_2) fun (c26 : ((Int × (List (List DV) × (List (List DV) × Unit))) × (Bool × Unit))) =>
      optAll (epoch_Advance.R ((c26).1).1 (((c26).1).2).1 ((((c26).1).2).2).1) fun (c27 : ((Int × (List (List DV) × (List (List DV) × Unit))) × (Bool × Unit))) =>
      cond ((!((c26).2).1)) (
        c = (false, ())) (
        cond ((!((c27).2).1)) (
          c = (false, ())) (
          cond (((((b9).length : Nat) : Int) != x0)) (
            c = (false, ())) (
            H30_4194304 x0 b9 (0 : Int) ((c27).1).1 (((c27).1).2).1 ((((c27).1).2).2).1 b11 c))))) : H17_3145728 x0 b9 x10 b428 b428_1 b428_2 b11 c := head_rule (n := 400) (noSum_ok _) (by kernel_rfl) h
theorem H30_4194304_step (x0 : Int) (b9 : List (List DV)) (x15 : Int) (b428 : Int) (b428_1 : List (List DV)) (b428_2 : List (List DV)) (b11 : List (List DV)) (c : (Bool × Unit)) (h :
    cond (decide ((x15 < x0))) (
      optAll (epoch_Reap.R b428 b428_1 b428_2 x15) fun (c28 : ((Int × (List (List DV) × (List (List DV) × Unit))) × (List (List DV) × Unit))) =>
      needs (((0 : Int) ≤ x15) ∧ (x15 < (((b9).length : Nat) : Int))) (
      optAll ((b9)[(0 + (Int.toNat x15))]?) fun (r29 : List DV) =>
      optAll ((dLst 1 r29 0)) fun (l30 : List (List DV)) =>
      optAll (ref07_Ints.R ((c28).2).1 l30) fun (c31 : (Bool × Unit)) =>
      cond ((!(c31).1)) (
        c = (false, ())) (
        cond (((((((((c28).1).2).2).1).length : Nat) : Int) != x0)) (
          c = (false, ())) (
          needs ((0 : Int) ≤ x15) (
          optAll ((((((c28).1).2).2).1)[(Int.toNat x15)]?) fun (r32 : List DV) =>
          optAll ((dLst 2 r32 0)) fun (l33 : List (List DV)) =>
          cond (((((l33).length : Nat) : Int) != (0 : Int))) (
            c = (false, ())) (
            H30_4194304 x0 b9 (IntKind.i64.wrap (x15 + (1 : Int))) ((c28).1).1 (((c28).1).2).1 ((((c28).1).2).2).1 b11 c)))))) (
      optAll (law11_live.R) fun (c34 : (Bool × Unit)) =>
      c = ((c34).1, ()))) : H30_4194304 x0 b9 x15 b428 b428_1 b428_2 b11 c := head_rule (n := 400) (noSum_ok _) (by kernel_rfl) h
end law11_EpochGoes
end Go.AI
