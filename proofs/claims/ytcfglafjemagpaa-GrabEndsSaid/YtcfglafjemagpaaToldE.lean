/-
  Own work: printed by Tell, a program of this work: what each function's body does over symbols.
-/
import Derived.Test.YtcfglafjemagpaaToldL
import Derived.KernelRfl
namespace Go.AI
open Go
set_option maxRecDepth 100000
set_option linter.unusedVariables false
set_option linter.unusedSimpArgs false
/-! garrison/garrisonlaw07.GrabEnds -/
namespace law07_GrabEnds
abbrev sh : List Sh := [.one (.bool)]
noncomputable abbrev R (a0 : List (List DV)) (a1 : List (List DV)) : Option (Bool × Unit) := retω cfg sh 6 [(AV.d (DV.lst 2 a0)), (AV.d (DV.lst 1 a1))]
end law07_GrabEnds
/-! garrison/garrisonlaw07.GrabEnds -/
namespace law07_GrabEnds
def lv : Live := [((9, 1048576), [1, 5, 7, 9], [155, 553, 521, 554]), ((15, 2097152), [5, 7, 11], [155, 553, 521, 554]), ((19, 3145728), [5, 7, 11, 12, 13], [155, 553, 521, 554]), ((25, 3145728), [5, 7, 14], [155, 553, 521, 554]), ((25, 4194304), [5, 7, 14], [155, 553, 521, 554]), ((31, 4194304), [15, 16], [3145930]), ((31, 5242880), [15, 16], [4194506])]
abbrev H9 (x1 : List (List DV)) (b155n : Nat) (x9 : Int) (b155 : List (List DV)) (b553 : Nat) (b553_1 : Int) (b554 : List (List DV)) (b521 : List (List DV)) (c : (Bool × Unit)) : Prop := HeadAns cfg 6 sh lv (bd cfg 6 [1, 1, 1, 1, 1, 0, 1, 0, 0]) 1048576 [.inBlock 0, .code (bd cfg 6 [1, 1, 1, 1, 1, 1])]
  [(AV.d (DV.lst 1 x1)), (AV.ref 155 0 0 b155n), (AV.ptr 553 0 0 0), (AV.d (DV.v (Value.int IntKind.i64 x9)))] [(Option.some (VBlk.drow 6 0 b155)), (Option.some (VBlk.cell 3 0 [(AV.ref 521 0 0 b553), (AV.d (DV.v (Value.int IntKind.i64 b553_1))), (AV.ref 554 0 0 (List.length b554))])), (Option.some (VBlk.drow 1 0 b521)), (Option.some (VBlk.drow 7 0 b554))] 1048576 c
abbrev H15 (x5l0 : Nat) (x11 : Int) (b155 : List (List DV)) (b553 : Nat) (b553_1 : Int) (b554 : List (List DV)) (b521 : List (List DV)) (c : (Bool × Unit)) : Prop := HeadAns cfg 6 sh lv (bd cfg 6 [1, 1, 1, 1, 1, 1, 0, 1, 0, 0]) 2097152 [.inBlock 2, .code (bd cfg 6 [1, 1, 1, 1, 1, 1, 1])]
  [(AV.ref 155 0 0 x5l0), (AV.ptr 553 0 0 0), (AV.d (DV.v (Value.int IntKind.i64 x11)))] [(Option.some (VBlk.drow 6 0 b155)), (Option.some (VBlk.cell 3 0 [(AV.ref 521 0 0 b553), (AV.d (DV.v (Value.int IntKind.i64 b553_1))), (AV.ref 554 0 0 (List.length b554))])), (Option.some (VBlk.drow 1 0 b521)), (Option.some (VBlk.drow 7 0 b554))] 2097152 c
abbrev H19 (x5 : Nat) (x11 : Int) (x12 : Bool) (x13 : Int) (b155 : List (List DV)) (b553 : Nat) (b553_1 : Int) (b554 : List (List DV)) (b521 : List (List DV)) (c : (Bool × Unit)) : Prop := HeadAns cfg 6 sh lv (bd cfg 6 [1, 1, 1, 1, 1, 1, 0, 1, 0, 0, 1, 0, 0, 1, 0, 1, 0, 0]) 3145728 [.inBlock 4, .code (bd cfg 6 [1, 1, 1, 1, 1, 1, 0, 1, 0, 0, 1, 0, 0, 1, 1]), .inBlock 3, .code (bd cfg 6 [1, 1, 1, 1, 1, 1, 0, 1, 0, 0, 1, 1]), .inLoop (bd cfg 6 [1, 1, 1, 1, 1, 1, 0, 1, 0, 0]) 2097152, .inBlock 2, .code (bd cfg 6 [1, 1, 1, 1, 1, 1, 1])]
  [(AV.ref 155 0 0 x5), (AV.ptr 553 0 0 0), (AV.d (DV.v (Value.int IntKind.i64 x11))), (AV.d (DV.v (Value.bool x12))), (AV.d (DV.v (Value.int IntKind.i64 x13)))] [(Option.some (VBlk.drow 6 0 b155)), (Option.some (VBlk.cell 3 0 [(AV.ref 521 0 0 b553), (AV.d (DV.v (Value.int IntKind.i64 b553_1))), (AV.ref 554 0 0 (List.length b554))])), (Option.some (VBlk.drow 1 0 b521)), (Option.some (VBlk.drow 7 0 b554))] 3145728 c
abbrev H25 (x5 : Nat) (x14 : Int) (b155 : List (List DV)) (b553 : Nat) (b553_1 : Int) (b554 : List (List DV)) (b521 : List (List DV)) (c : (Bool × Unit)) : Prop := HeadAns cfg 6 sh lv (bd cfg 6 [1, 1, 1, 1, 1, 1, 1, 0, 1, 0, 0]) 3145728 [.inBlock 6, .code (bd cfg 6 [1, 1, 1, 1, 1, 1, 1, 1])]
  [(AV.ref 155 0 0 x5), (AV.ptr 553 0 0 0), (AV.d (DV.v (Value.int IntKind.i64 x14)))] [(Option.some (VBlk.drow 6 0 b155)), (Option.some (VBlk.cell 3 0 [(AV.ref 521 0 0 b553), (AV.d (DV.v (Value.int IntKind.i64 b553_1))), (AV.ref 554 0 0 (List.length b554))])), (Option.some (VBlk.drow 1 0 b521)), (Option.some (VBlk.drow 7 0 b554))] 3145728 c
abbrev H25_4194304 (x5 : Nat) (x14 : Int) (b155 : List (List DV)) (b553 : Nat) (b553_1 : Int) (b554 : List (List DV)) (b521 : List (List DV)) (c : (Bool × Unit)) : Prop := HeadAns cfg 6 sh lv (bd cfg 6 [1, 1, 1, 1, 1, 1, 1, 0, 1, 0, 0]) 4194304 [.inBlock 6, .code (bd cfg 6 [1, 1, 1, 1, 1, 1, 1, 1])]
  [(AV.ref 155 0 0 x5), (AV.ptr 553 0 0 0), (AV.d (DV.v (Value.int IntKind.i64 x14)))] [(Option.some (VBlk.drow 6 0 b155)), (Option.some (VBlk.cell 3 0 [(AV.ref 521 0 0 b553), (AV.d (DV.v (Value.int IntKind.i64 b553_1))), (AV.ref 554 0 0 (List.length b554))])), (Option.some (VBlk.drow 1 0 b521)), (Option.some (VBlk.drow 7 0 b554))] 4194304 c
abbrev H31 (b3145930 : List (List DV)) (x16 : Int) (c : (Bool × Unit)) : Prop := HeadAns cfg 6 sh lv (bd cfg 6 [1, 1, 1, 1, 1, 1, 1, 1, 1, 0, 1, 0, 0]) 4194304 [.inBlock 8, .code (bd cfg 6 [1, 1, 1, 1, 1, 1, 1, 1, 1, 1])]
  [(AV.ref 3145930 0 0 (List.length b3145930)), (AV.d (DV.v (Value.int IntKind.i64 x16)))] [(Option.some (VBlk.drow 1 0 b3145930))] 4194304 c
abbrev H31_5242880 (b4194506 : List (List DV)) (x16 : Int) (c : (Bool × Unit)) : Prop := HeadAns cfg 6 sh lv (bd cfg 6 [1, 1, 1, 1, 1, 1, 1, 1, 1, 0, 1, 0, 0]) 5242880 [.inBlock 8, .code (bd cfg 6 [1, 1, 1, 1, 1, 1, 1, 1, 1, 1])]
  [(AV.ref 4194506 0 0 (List.length b4194506)), (AV.d (DV.v (Value.int IntKind.i64 x16)))] [(Option.some (VBlk.drow 1 0 b4194506))] 5242880 c
theorem start (a0 : List (List DV)) (a1 : List (List DV)) (c : (Bool × Unit)) (h :
    optAll (law07_begins.R a0) fun (c0 : (List (List DV) × (Bool × Unit))) =>
    cond ((!((c0).2).1)) (
      optAll (law07_live.R) fun (c1 : (Bool × Unit)) =>
      c = ((c1).1, ())) (
      cond (decide (((((a1).length : Nat) : Int) > (300 : Int)))) (
        optAll (law07_live.R) fun (c2 : (Bool × Unit)) =>
        c = ((c2).1, ())) (
        optAll (law07_num.R (0 : Int)) fun (c3 : (Int × Unit)) =>
        cond (((c3).1 != (0 : Int))) (
          c = (false, ())) (
          H9 a1 ((c0).1).length (0 : Int) (c0).1 8 (0 : Int) [] (List.replicate (8) [(DV.v (Value.int IntKind.i64 (0 : Int)))]) c)))) : R a0 a1 = some c := start_rule (n := 400) (lv := lv) (noSum_ok _) (by kernel_rfl) h
theorem H9_step (x1 : List (List DV)) (b155n : Nat) (x9 : Int) (b155 : List (List DV)) (b553 : Nat) (b553_1 : Int) (b554 : List (List DV)) (b521 : List (List DV)) (c : (Bool × Unit)) (h :
    cond (decide ((x9 < (((x1).length : Nat) : Int)))) (
      needs ((0 : Int) ≤ x9) (
      optAll ((x1)[(Int.toNat x9)]?) fun (r4 : List DV) =>
      optAll ((dInt IntKind.i64 r4 0)) fun (z5 : Int) =>
      cond (decide ((z5 ≥ (0 : Int)))) (
        cond (decide ((z5 < ((b155n : Nat) : Int)))) (
          needs (((0 : Int) ≤ z5) ∧ (z5 < ((b155n : Nat) : Int))) (
          optAll ((b155)[(0 + (Int.toNat z5))]?) fun (r6 : List DV) =>
          optAll ((dInt IntKind.i64 r6 0)) fun (z7 : Int) =>
          optAll ((dLst 1 r6 1)) fun (l8 : List (List DV)) =>
          optAll ((dInt IntKind.i64 r6 2)) fun (z9 : Int) =>
          optAll ((dInt IntKind.i64 r6 3)) fun (z10 : Int) =>
          optAll ((dInt IntKind.i64 r6 4)) fun (z11 : Int) =>
          optAll ((dBool r6 5)) fun (z12 : Bool) =>
          cond ((z9 == (2 : Int))) (
            optAll (grab_Free.R z7 l8 z9 z10 z11 z12) fun (c13 : ((Int × (List (List DV) × (Int × (Int × (Int × (Bool × Unit)))))) × Unit)) =>
            needs (((0 : Int) ≤ z5) ∧ (z5 < ((b155n : Nat) : Int))) (
            optAll ((b155)[(0 + (Int.toNat z5))]?) fun (r14 : List DV) =>
            needs (6 ≤ (r14).length) (
            H9 x1 b155n (IntKind.i64.wrap (x9 + (1 : Int))) ((b155).set ((0 + (Int.toNat z5))) (putD r14 0 [(DV.v (Value.int IntKind.i64 ((c13).1).1)), (DV.lst 1 (((c13).1).2).1), (DV.v (Value.int IntKind.i64 ((((c13).1).2).2).1)), (DV.v (Value.int IntKind.i64 (((((c13).1).2).2).2).1)), (DV.v (Value.int IntKind.i64 ((((((c13).1).2).2).2).2).1)), (DV.v (Value.bool (((((((c13).1).2).2).2).2).2).1))])) b553 b553_1 b554 b521 c))) (
            optAll (grab_Next.R z7 l8 z9 z10 z11 z12) fun (c15 : ((Int × (Int × (Int × (Int × (Int × Unit))))) × (Bool × Unit))) =>
            cond ((!((c15).2).1)) (
              needs (((0 : Int) ≤ z5) ∧ (z5 < ((b155n : Nat) : Int))) (
              optAll ((b155)[(0 + (Int.toNat z5))]?) fun (r16 : List DV) =>
              needs (6 ≤ (r16).length) (
              H9 x1 b155n (IntKind.i64.wrap (x9 + (1 : Int))) ((b155).set ((0 + (Int.toNat z5))) (putD r16 0 [(DV.v (Value.int IntKind.i64 z7)), (DV.lst 1 l8), (DV.v (Value.int IntKind.i64 z9)), (DV.v (Value.int IntKind.i64 z10)), (DV.v (Value.int IntKind.i64 z11)), (DV.v (Value.bool z12))])) b553 b553_1 b554 b521 c))) (
              optAll (cells_Check.R ((c15).1).1 (((c15).1).2).1 ((((c15).1).2).2).1 (((((c15).1).2).2).2).1 ((((((c15).1).2).2).2).2).1 ((b553 : Nat) : Int)) fun (c17 : (Int × Unit)) =>
              cond (((c17).1 != (0 : Int))) (
                optAll (grab_Take.R z7 l8 z9 z10 z11 z12 false) fun (c18 : ((Int × (List (List DV) × (Int × (Int × (Int × (Bool × Unit)))))) × Unit)) =>
                needs (((0 : Int) ≤ z5) ∧ (z5 < ((b155n : Nat) : Int))) (
                optAll ((b155)[(0 + (Int.toNat z5))]?) fun (r19 : List DV) =>
                needs (6 ≤ (r19).length) (
                H9 x1 b155n (IntKind.i64.wrap (x9 + (1 : Int))) ((b155).set ((0 + (Int.toNat z5))) (putD r19 0 [(DV.v (Value.int IntKind.i64 ((c18).1).1)), (DV.lst 1 (((c18).1).2).1), (DV.v (Value.int IntKind.i64 ((((c18).1).2).2).1)), (DV.v (Value.int IntKind.i64 (((((c18).1).2).2).2).1)), (DV.v (Value.int IntKind.i64 ((((((c18).1).2).2).2).2).1)), (DV.v (Value.bool (((((((c18).1).2).2).2).2).2).1))])) b553 b553_1 b554 b521 c))) (
                needs (((0 : Int) ≤ (((c15).1).2).1) ∧ ((((c15).1).2).1 < ((b553 : Nat) : Int))) (
                optAll ((b521)[(0 + (Int.toNat (((c15).1).2).1))]?) fun (r20 : List DV) =>
                optAll ((dInt IntKind.i64 r20 0)) fun (z21 : Int) =>
                optAll (cells_step.R z21 ((c15).1).1 (((c15).1).2).1 ((((c15).1).2).2).1 (((((c15).1).2).2).2).1 ((((((c15).1).2).2).2).2).1) fun (c22 : (((Int × (Int × (Int × (Int × (Int × (Int × (Bool × Unit))))))) × Unit) × Int)) =>
                cond (decide (((((b554).length : Nat) : Int) < (2000 : Int)))) (
                  needs ((b554).length = (b554).length) (
                  needs (((((b554 ++ (([[(DV.v (Value.int IntKind.i64 (((c22).1).1).1)), (DV.v (Value.int IntKind.i64 ((((c22).1).1).2).1)), (DV.v (Value.int IntKind.i64 (((((c22).1).1).2).2).1)), (DV.v (Value.int IntKind.i64 ((((((c22).1).1).2).2).2).1)), (DV.v (Value.int IntKind.i64 (((((((c22).1).1).2).2).2).2).1)), (DV.v (Value.int IntKind.i64 ((((((((c22).1).1).2).2).2).2).2).1)), (DV.v (Value.bool (((((((((c22).1).1).2).2).2).2).2).2).1))]]).take (1)))).length * 56) ≤ 140737488355328) ∧ ((((b554 ++ (([[(DV.v (Value.int IntKind.i64 (((c22).1).1).1)), (DV.v (Value.int IntKind.i64 ((((c22).1).1).2).1)), (DV.v (Value.int IntKind.i64 (((((c22).1).1).2).2).1)), (DV.v (Value.int IntKind.i64 ((((((c22).1).1).2).2).2).1)), (DV.v (Value.int IntKind.i64 (((((((c22).1).1).2).2).2).2).1)), (DV.v (Value.int IntKind.i64 ((((((((c22).1).1).2).2).2).2).2).1)), (DV.v (Value.bool (((((((((c22).1).1).2).2).2).2).2).2).1))]]).take (1)))).length * 7) ≤ 140737488355328)) (
                  optAll (grab_Take.R z7 l8 z9 z10 z11 z12 (((((((((c22).1).1).2).2).2).2).2).2).1) fun (c23 : ((Int × (List (List DV) × (Int × (Int × (Int × (Bool × Unit)))))) × Unit)) =>
                  needs (((0 : Int) ≤ z5) ∧ (z5 < ((b155n : Nat) : Int))) (
                  optAll ((b155)[(0 + (Int.toNat z5))]?) fun (r24 : List DV) =>
                  needs (6 ≤ (r24).length) (
                  H9 x1 b155n (IntKind.i64.wrap (x9 + (1 : Int))) ((b155).set ((0 + (Int.toNat z5))) (putD r24 0 [(DV.v (Value.int IntKind.i64 ((c23).1).1)), (DV.lst 1 (((c23).1).2).1), (DV.v (Value.int IntKind.i64 ((((c23).1).2).2).1)), (DV.v (Value.int IntKind.i64 (((((c23).1).2).2).2).1)), (DV.v (Value.int IntKind.i64 ((((((c23).1).2).2).2).2).1)), (DV.v (Value.bool (((((((c23).1).2).2).2).2).2).1))])) b553 (IntKind.i64.wrap (b553_1 + (1 : Int))) (b554 ++ (([[(DV.v (Value.int IntKind.i64 (((c22).1).1).1)), (DV.v (Value.int IntKind.i64 ((((c22).1).1).2).1)), (DV.v (Value.int IntKind.i64 (((((c22).1).1).2).2).1)), (DV.v (Value.int IntKind.i64 ((((((c22).1).1).2).2).2).1)), (DV.v (Value.int IntKind.i64 (((((((c22).1).1).2).2).2).2).1)), (DV.v (Value.int IntKind.i64 ((((((((c22).1).1).2).2).2).2).2).1)), (DV.v (Value.bool (((((((((c22).1).1).2).2).2).2).2).2).1))]]).take (1))) ((b521).set ((0 + (Int.toNat (((c15).1).2).1))) (putD r20 0 [(DV.v (Value.int IntKind.i64 (c22).2))])) c))))) (
                  optAll (grab_Take.R z7 l8 z9 z10 z11 z12 (((((((((c22).1).1).2).2).2).2).2).2).1) fun (c25 : ((Int × (List (List DV) × (Int × (Int × (Int × (Bool × Unit)))))) × Unit)) =>
                  needs (((0 : Int) ≤ z5) ∧ (z5 < ((b155n : Nat) : Int))) (
                  optAll ((b155)[(0 + (Int.toNat z5))]?) fun (r26 : List DV) =>
                  needs (6 ≤ (r26).length) (
                  H9 x1 b155n (IntKind.i64.wrap (x9 + (1 : Int))) ((b155).set ((0 + (Int.toNat z5))) (putD r26 0 [(DV.v (Value.int IntKind.i64 ((c25).1).1)), (DV.lst 1 (((c25).1).2).1), (DV.v (Value.int IntKind.i64 ((((c25).1).2).2).1)), (DV.v (Value.int IntKind.i64 (((((c25).1).2).2).2).1)), (DV.v (Value.int IntKind.i64 ((((((c25).1).2).2).2).2).1)), (DV.v (Value.bool (((((((c25).1).2).2).2).2).2).1))])) b553 (IntKind.i64.wrap (b553_1 + (1 : Int))) b554 ((b521).set ((0 + (Int.toNat (((c15).1).2).1))) (putD r20 0 [(DV.v (Value.int IntKind.i64 (c22).2))])) c))))))))) (
          H9 x1 b155n (IntKind.i64.wrap (x9 + (1 : Int))) b155 b553 b553_1 b554 b521 c)) (
        H9 x1 b155n (IntKind.i64.wrap (x9 + (1 : Int))) b155 b553 b553_1 b554 b521 c))) (
      H15 b155n (0 : Int) b155 b553 b553_1 b554 b521 c)) : H9 x1 b155n x9 b155 b553 b553_1 b554 b521 c := head_rule (n := 400) (noSum_ok _) (by kernel_rfl) h
theorem H15_step (x5l0 : Nat) (x11 : Int) (b155 : List (List DV)) (b553 : Nat) (b553_1 : Int) (b554 : List (List DV)) (b521 : List (List DV)) (c : (Bool × Unit)) (h :
    cond (decide ((x11 < (2000 : Int)))) (
      H19 x5l0 x11 true (0 : Int) b155 b553 b553_1 b554 b521 c) (
      H25 x5l0 (0 : Int) b155 b553 b553_1 b554 b521 c)) : H15 x5l0 x11 b155 b553 b553_1 b554 b521 c := head_rule (n := 400) (noSum_ok _) (by kernel_rfl) h
theorem H19_step (x5 : Nat) (x11 : Int) (x12 : Bool) (x13 : Int) (b155 : List (List DV)) (b553 : Nat) (b553_1 : Int) (b554 : List (List DV)) (b521 : List (List DV)) (c : (Bool × Unit)) (h :
    cond (decide ((x13 < ((x5 : Nat) : Int)))) (
      needs (((0 : Int) ≤ x13) ∧ (x13 < ((x5 : Nat) : Int))) (
      optAll ((b155)[(0 + (Int.toNat x13))]?) fun (r27 : List DV) =>
      optAll ((dInt IntKind.i64 r27 0)) fun (z28 : Int) =>
      optAll ((dLst 1 r27 1)) fun (l29 : List (List DV)) =>
      optAll ((dInt IntKind.i64 r27 2)) fun (z30 : Int) =>
      optAll ((dInt IntKind.i64 r27 3)) fun (z31 : Int) =>
      optAll ((dInt IntKind.i64 r27 4)) fun (z32 : Int) =>
      optAll ((dBool r27 5)) fun (z33 : Bool) =>
      cond ((z30 == (2 : Int))) (
        optAll (grab_Free.R z28 l29 z30 z31 z32 z33) fun (c34 : ((Int × (List (List DV) × (Int × (Int × (Int × (Bool × Unit)))))) × Unit)) =>
        needs (((0 : Int) ≤ x13) ∧ (x13 < ((x5 : Nat) : Int))) (
        optAll ((b155)[(0 + (Int.toNat x13))]?) fun (r35 : List DV) =>
        needs (6 ≤ (r35).length) (
        cond (x12) (
          needs (((0 : Int) ≤ x13) ∧ (x13 < ((x5 : Nat) : Int))) (
          optAll ((((b155).set ((0 + (Int.toNat x13))) (putD r35 0 [(DV.v (Value.int IntKind.i64 ((c34).1).1)), (DV.lst 1 (((c34).1).2).1), (DV.v (Value.int IntKind.i64 ((((c34).1).2).2).1)), (DV.v (Value.int IntKind.i64 (((((c34).1).2).2).2).1)), (DV.v (Value.int IntKind.i64 ((((((c34).1).2).2).2).2).1)), (DV.v (Value.bool (((((((c34).1).2).2).2).2).2).1))])))[(0 + (Int.toNat x13))]?) fun (r36 : List DV) =>
          optAll ((dInt IntKind.i64 r36 2)) fun (z37 : Int) =>
          H19 x5 x11 (z37 == (5 : Int)) (IntKind.i64.wrap (x13 + (1 : Int))) ((b155).set ((0 + (Int.toNat x13))) (putD r35 0 [(DV.v (Value.int IntKind.i64 ((c34).1).1)), (DV.lst 1 (((c34).1).2).1), (DV.v (Value.int IntKind.i64 ((((c34).1).2).2).1)), (DV.v (Value.int IntKind.i64 (((((c34).1).2).2).2).1)), (DV.v (Value.int IntKind.i64 ((((((c34).1).2).2).2).2).1)), (DV.v (Value.bool (((((((c34).1).2).2).2).2).2).1))])) b553 b553_1 b554 b521 c)) (
          H19 x5 x11 false (IntKind.i64.wrap (x13 + (1 : Int))) ((b155).set ((0 + (Int.toNat x13))) (putD r35 0 [(DV.v (Value.int IntKind.i64 ((c34).1).1)), (DV.lst 1 (((c34).1).2).1), (DV.v (Value.int IntKind.i64 ((((c34).1).2).2).1)), (DV.v (Value.int IntKind.i64 (((((c34).1).2).2).2).1)), (DV.v (Value.int IntKind.i64 ((((((c34).1).2).2).2).2).1)), (DV.v (Value.bool (((((((c34).1).2).2).2).2).2).1))])) b553 b553_1 b554 b521 c)))) (
        optAll (grab_Next.R z28 l29 z30 z31 z32 z33) fun (c38 : ((Int × (Int × (Int × (Int × (Int × Unit))))) × (Bool × Unit))) =>
        cond ((!((c38).2).1)) (
          needs (((0 : Int) ≤ x13) ∧ (x13 < ((x5 : Nat) : Int))) (
          optAll ((b155)[(0 + (Int.toNat x13))]?) fun (r39 : List DV) =>
          needs (6 ≤ (r39).length) (
          cond (x12) (
            needs (((0 : Int) ≤ x13) ∧ (x13 < ((x5 : Nat) : Int))) (
            optAll ((((b155).set ((0 + (Int.toNat x13))) (putD r39 0 [(DV.v (Value.int IntKind.i64 z28)), (DV.lst 1 l29), (DV.v (Value.int IntKind.i64 z30)), (DV.v (Value.int IntKind.i64 z31)), (DV.v (Value.int IntKind.i64 z32)), (DV.v (Value.bool z33))])))[(0 + (Int.toNat x13))]?) fun (r40 : List DV) =>
            optAll ((dInt IntKind.i64 r40 2)) fun (z41 : Int) =>
            H19 x5 x11 (z41 == (5 : Int)) (IntKind.i64.wrap (x13 + (1 : Int))) ((b155).set ((0 + (Int.toNat x13))) (putD r39 0 [(DV.v (Value.int IntKind.i64 z28)), (DV.lst 1 l29), (DV.v (Value.int IntKind.i64 z30)), (DV.v (Value.int IntKind.i64 z31)), (DV.v (Value.int IntKind.i64 z32)), (DV.v (Value.bool z33))])) b553 b553_1 b554 b521 c)) (
            H19 x5 x11 false (IntKind.i64.wrap (x13 + (1 : Int))) ((b155).set ((0 + (Int.toNat x13))) (putD r39 0 [(DV.v (Value.int IntKind.i64 z28)), (DV.lst 1 l29), (DV.v (Value.int IntKind.i64 z30)), (DV.v (Value.int IntKind.i64 z31)), (DV.v (Value.int IntKind.i64 z32)), (DV.v (Value.bool z33))])) b553 b553_1 b554 b521 c)))) (
          optAll (cells_Check.R ((c38).1).1 (((c38).1).2).1 ((((c38).1).2).2).1 (((((c38).1).2).2).2).1 ((((((c38).1).2).2).2).2).1 ((b553 : Nat) : Int)) fun (c42 : (Int × Unit)) =>
          cond (((c42).1 != (0 : Int))) (
            optAll (grab_Take.R z28 l29 z30 z31 z32 z33 false) fun (c43 : ((Int × (List (List DV) × (Int × (Int × (Int × (Bool × Unit)))))) × Unit)) =>
            needs (((0 : Int) ≤ x13) ∧ (x13 < ((x5 : Nat) : Int))) (
            optAll ((b155)[(0 + (Int.toNat x13))]?) fun (r44 : List DV) =>
            needs (6 ≤ (r44).length) (
            cond (x12) (
              needs (((0 : Int) ≤ x13) ∧ (x13 < ((x5 : Nat) : Int))) (
              optAll ((((b155).set ((0 + (Int.toNat x13))) (putD r44 0 [(DV.v (Value.int IntKind.i64 ((c43).1).1)), (DV.lst 1 (((c43).1).2).1), (DV.v (Value.int IntKind.i64 ((((c43).1).2).2).1)), (DV.v (Value.int IntKind.i64 (((((c43).1).2).2).2).1)), (DV.v (Value.int IntKind.i64 ((((((c43).1).2).2).2).2).1)), (DV.v (Value.bool (((((((c43).1).2).2).2).2).2).1))])))[(0 + (Int.toNat x13))]?) fun (r45 : List DV) =>
              optAll ((dInt IntKind.i64 r45 2)) fun (z46 : Int) =>
              H19 x5 x11 (z46 == (5 : Int)) (IntKind.i64.wrap (x13 + (1 : Int))) ((b155).set ((0 + (Int.toNat x13))) (putD r44 0 [(DV.v (Value.int IntKind.i64 ((c43).1).1)), (DV.lst 1 (((c43).1).2).1), (DV.v (Value.int IntKind.i64 ((((c43).1).2).2).1)), (DV.v (Value.int IntKind.i64 (((((c43).1).2).2).2).1)), (DV.v (Value.int IntKind.i64 ((((((c43).1).2).2).2).2).1)), (DV.v (Value.bool (((((((c43).1).2).2).2).2).2).1))])) b553 b553_1 b554 b521 c)) (
              H19 x5 x11 false (IntKind.i64.wrap (x13 + (1 : Int))) ((b155).set ((0 + (Int.toNat x13))) (putD r44 0 [(DV.v (Value.int IntKind.i64 ((c43).1).1)), (DV.lst 1 (((c43).1).2).1), (DV.v (Value.int IntKind.i64 ((((c43).1).2).2).1)), (DV.v (Value.int IntKind.i64 (((((c43).1).2).2).2).1)), (DV.v (Value.int IntKind.i64 ((((((c43).1).2).2).2).2).1)), (DV.v (Value.bool (((((((c43).1).2).2).2).2).2).1))])) b553 b553_1 b554 b521 c)))) (
            needs (((0 : Int) ≤ (((c38).1).2).1) ∧ ((((c38).1).2).1 < ((b553 : Nat) : Int))) (
            optAll ((b521)[(0 + (Int.toNat (((c38).1).2).1))]?) fun (r47 : List DV) =>
            optAll ((dInt IntKind.i64 r47 0)) fun (z48 : Int) =>
            optAll (cells_step.R z48 ((c38).1).1 (((c38).1).2).1 ((((c38).1).2).2).1 (((((c38).1).2).2).2).1 ((((((c38).1).2).2).2).2).1) fun (c49 : (((Int × (Int × (Int × (Int × (Int × (Int × (Bool × Unit))))))) × Unit) × Int)) =>
            cond (decide (((((b554).length : Nat) : Int) < (2000 : Int)))) (
              needs ((b554).length = (b554).length) (
              needs (((((b554 ++ (([[(DV.v (Value.int IntKind.i64 (((c49).1).1).1)), (DV.v (Value.int IntKind.i64 ((((c49).1).1).2).1)), (DV.v (Value.int IntKind.i64 (((((c49).1).1).2).2).1)), (DV.v (Value.int IntKind.i64 ((((((c49).1).1).2).2).2).1)), (DV.v (Value.int IntKind.i64 (((((((c49).1).1).2).2).2).2).1)), (DV.v (Value.int IntKind.i64 ((((((((c49).1).1).2).2).2).2).2).1)), (DV.v (Value.bool (((((((((c49).1).1).2).2).2).2).2).2).1))]]).take (1)))).length * 56) ≤ 140737488355328) ∧ ((((b554 ++ (([[(DV.v (Value.int IntKind.i64 (((c49).1).1).1)), (DV.v (Value.int IntKind.i64 ((((c49).1).1).2).1)), (DV.v (Value.int IntKind.i64 (((((c49).1).1).2).2).1)), (DV.v (Value.int IntKind.i64 ((((((c49).1).1).2).2).2).1)), (DV.v (Value.int IntKind.i64 (((((((c49).1).1).2).2).2).2).1)), (DV.v (Value.int IntKind.i64 ((((((((c49).1).1).2).2).2).2).2).1)), (DV.v (Value.bool (((((((((c49).1).1).2).2).2).2).2).2).1))]]).take (1)))).length * 7) ≤ 140737488355328)) (
              optAll (grab_Take.R z28 l29 z30 z31 z32 z33 (((((((((c49).1).1).2).2).2).2).2).2).1) fun (c50 : ((Int × (List (List DV) × (Int × (Int × (Int × (Bool × Unit)))))) × Unit)) =>
              needs (((0 : Int) ≤ x13) ∧ (x13 < ((x5 : Nat) : Int))) (
              optAll ((b155)[(0 + (Int.toNat x13))]?) fun (r51 : List DV) =>
              needs (6 ≤ (r51).length) (
              cond (x12) (
                needs (((0 : Int) ≤ x13) ∧ (x13 < ((x5 : Nat) : Int))) (
                optAll ((((b155).set ((0 + (Int.toNat x13))) (putD r51 0 [(DV.v (Value.int IntKind.i64 ((c50).1).1)), (DV.lst 1 (((c50).1).2).1), (DV.v (Value.int IntKind.i64 ((((c50).1).2).2).1)), (DV.v (Value.int IntKind.i64 (((((c50).1).2).2).2).1)), (DV.v (Value.int IntKind.i64 ((((((c50).1).2).2).2).2).1)), (DV.v (Value.bool (((((((c50).1).2).2).2).2).2).1))])))[(0 + (Int.toNat x13))]?) fun (r52 : List DV) =>
                optAll ((dInt IntKind.i64 r52 2)) fun (z53 : Int) =>
                H19 x5 x11 (z53 == (5 : Int)) (IntKind.i64.wrap (x13 + (1 : Int))) ((b155).set ((0 + (Int.toNat x13))) (putD r51 0 [(DV.v (Value.int IntKind.i64 ((c50).1).1)), (DV.lst 1 (((c50).1).2).1), (DV.v (Value.int IntKind.i64 ((((c50).1).2).2).1)), (DV.v (Value.int IntKind.i64 (((((c50).1).2).2).2).1)), (DV.v (Value.int IntKind.i64 ((((((c50).1).2).2).2).2).1)), (DV.v (Value.bool (((((((c50).1).2).2).2).2).2).1))])) b553 (IntKind.i64.wrap (b553_1 + (1 : Int))) (b554 ++ (([[(DV.v (Value.int IntKind.i64 (((c49).1).1).1)), (DV.v (Value.int IntKind.i64 ((((c49).1).1).2).1)), (DV.v (Value.int IntKind.i64 (((((c49).1).1).2).2).1)), (DV.v (Value.int IntKind.i64 ((((((c49).1).1).2).2).2).1)), (DV.v (Value.int IntKind.i64 (((((((c49).1).1).2).2).2).2).1)), (DV.v (Value.int IntKind.i64 ((((((((c49).1).1).2).2).2).2).2).1)), (DV.v (Value.bool (((((((((c49).1).1).2).2).2).2).2).2).1))]]).take (1))) ((b521).set ((0 + (Int.toNat (((c38).1).2).1))) (putD r47 0 [(DV.v (Value.int IntKind.i64 (c49).2))])) c)) (
                H19 x5 x11 false (IntKind.i64.wrap (x13 + (1 : Int))) ((b155).set ((0 + (Int.toNat x13))) (putD r51 0 [(DV.v (Value.int IntKind.i64 ((c50).1).1)), (DV.lst 1 (((c50).1).2).1), (DV.v (Value.int IntKind.i64 ((((c50).1).2).2).1)), (DV.v (Value.int IntKind.i64 (((((c50).1).2).2).2).1)), (DV.v (Value.int IntKind.i64 ((((((c50).1).2).2).2).2).1)), (DV.v (Value.bool (((((((c50).1).2).2).2).2).2).1))])) b553 (IntKind.i64.wrap (b553_1 + (1 : Int))) (b554 ++ (([[(DV.v (Value.int IntKind.i64 (((c49).1).1).1)), (DV.v (Value.int IntKind.i64 ((((c49).1).1).2).1)), (DV.v (Value.int IntKind.i64 (((((c49).1).1).2).2).1)), (DV.v (Value.int IntKind.i64 ((((((c49).1).1).2).2).2).1)), (DV.v (Value.int IntKind.i64 (((((((c49).1).1).2).2).2).2).1)), (DV.v (Value.int IntKind.i64 ((((((((c49).1).1).2).2).2).2).2).1)), (DV.v (Value.bool (((((((((c49).1).1).2).2).2).2).2).2).1))]]).take (1))) ((b521).set ((0 + (Int.toNat (((c38).1).2).1))) (putD r47 0 [(DV.v (Value.int IntKind.i64 (c49).2))])) c)))))) (
              optAll (grab_Take.R z28 l29 z30 z31 z32 z33 (((((((((c49).1).1).2).2).2).2).2).2).1) fun (c54 : ((Int × (List (List DV) × (Int × (Int × (Int × (Bool × Unit)))))) × Unit)) =>
              needs (((0 : Int) ≤ x13) ∧ (x13 < ((x5 : Nat) : Int))) (
              optAll ((b155)[(0 + (Int.toNat x13))]?) fun (r55 : List DV) =>
              needs (6 ≤ (r55).length) (
              cond (x12) (
                needs (((0 : Int) ≤ x13) ∧ (x13 < ((x5 : Nat) : Int))) (
                optAll ((((b155).set ((0 + (Int.toNat x13))) (putD r55 0 [(DV.v (Value.int IntKind.i64 ((c54).1).1)), (DV.lst 1 (((c54).1).2).1), (DV.v (Value.int IntKind.i64 ((((c54).1).2).2).1)), (DV.v (Value.int IntKind.i64 (((((c54).1).2).2).2).1)), (DV.v (Value.int IntKind.i64 ((((((c54).1).2).2).2).2).1)), (DV.v (Value.bool (((((((c54).1).2).2).2).2).2).1))])))[(0 + (Int.toNat x13))]?) fun (r56 : List DV) =>
                optAll ((dInt IntKind.i64 r56 2)) fun (z57 : Int) =>
                H19 x5 x11 (z57 == (5 : Int)) (IntKind.i64.wrap (x13 + (1 : Int))) ((b155).set ((0 + (Int.toNat x13))) (putD r55 0 [(DV.v (Value.int IntKind.i64 ((c54).1).1)), (DV.lst 1 (((c54).1).2).1), (DV.v (Value.int IntKind.i64 ((((c54).1).2).2).1)), (DV.v (Value.int IntKind.i64 (((((c54).1).2).2).2).1)), (DV.v (Value.int IntKind.i64 ((((((c54).1).2).2).2).2).1)), (DV.v (Value.bool (((((((c54).1).2).2).2).2).2).1))])) b553 (IntKind.i64.wrap (b553_1 + (1 : Int))) b554 ((b521).set ((0 + (Int.toNat (((c38).1).2).1))) (putD r47 0 [(DV.v (Value.int IntKind.i64 (c49).2))])) c)) (
                H19 x5 x11 false (IntKind.i64.wrap (x13 + (1 : Int))) ((b155).set ((0 + (Int.toNat x13))) (putD r55 0 [(DV.v (Value.int IntKind.i64 ((c54).1).1)), (DV.lst 1 (((c54).1).2).1), (DV.v (Value.int IntKind.i64 ((((c54).1).2).2).1)), (DV.v (Value.int IntKind.i64 (((((c54).1).2).2).2).1)), (DV.v (Value.int IntKind.i64 ((((((c54).1).2).2).2).2).1)), (DV.v (Value.bool (((((((c54).1).2).2).2).2).2).1))])) b553 (IntKind.i64.wrap (b553_1 + (1 : Int))) b554 ((b521).set ((0 + (Int.toNat (((c38).1).2).1))) (putD r47 0 [(DV.v (Value.int IntKind.i64 (c49).2))])) c)))))))))) (
      cond (x12) (
        H25_4194304 x5 (0 : Int) b155 b553 b553_1 b554 b521 c) (
        H15 x5 (IntKind.i64.wrap (x11 + (1 : Int))) b155 b553 b553_1 b554 b521 c))) : H19 x5 x11 x12 x13 b155 b553 b553_1 b554 b521 c := head_rule (n := 400) (noSum_ok _) (by kernel_rfl) h
theorem H25_step (x5 : Nat) (x14 : Int) (b155 : List (List DV)) (b553 : Nat) (b553_1 : Int) (b554 : List (List DV)) (b521 : List (List DV)) (c : (Bool × Unit)) (h :
    cond (decide ((x14 < ((x5 : Nat) : Int)))) (
      needs (((0 : Int) ≤ x14) ∧ (x14 < ((x5 : Nat) : Int))) (
      optAll ((b155)[(0 + (Int.toNat x14))]?) fun (r58 : List DV) =>
      optAll ((dInt IntKind.i64 r58 2)) fun (z59 : Int) =>
      cond ((z59 != (5 : Int))) (
        c = (false, ())) (
        H25 x5 (IntKind.i64.wrap (x14 + (1 : Int))) b155 b553 b553_1 b554 b521 c))) (
      needs ((((((b521).take (b553))).length * 8) ≤ 140737488355328) ∧ (((((b521).take (b553))).length * 1) ≤ 140737488355328)) (
      H31 ((b521).take (b553)) (0 : Int) c))) : H25 x5 x14 b155 b553 b553_1 b554 b521 c := head_rule (n := 400) (noSum_ok _) (by kernel_rfl) h
theorem H25_4194304_step (x5 : Nat) (x14 : Int) (b155 : List (List DV)) (b553 : Nat) (b553_1 : Int) (b554 : List (List DV)) (b521 : List (List DV)) (c : (Bool × Unit)) (h :
    cond (decide ((x14 < ((x5 : Nat) : Int)))) (
      needs (((0 : Int) ≤ x14) ∧ (x14 < ((x5 : Nat) : Int))) (
      optAll ((b155)[(0 + (Int.toNat x14))]?) fun (r60 : List DV) =>
      optAll ((dInt IntKind.i64 r60 2)) fun (z61 : Int) =>
      cond ((z61 != (5 : Int))) (
        c = (false, ())) (
        H25_4194304 x5 (IntKind.i64.wrap (x14 + (1 : Int))) b155 b553 b553_1 b554 b521 c))) (
      needs ((((((b521).take (b553))).length * 8) ≤ 140737488355328) ∧ (((((b521).take (b553))).length * 1) ≤ 140737488355328)) (
      H31_5242880 ((b521).take (b553)) (0 : Int) c))) : H25_4194304 x5 x14 b155 b553 b553_1 b554 b521 c := head_rule (n := 400) (noSum_ok _) (by kernel_rfl) h
theorem H31_step (b3145930 : List (List DV)) (x16 : Int) (c : (Bool × Unit)) (h :
    cond (decide ((x16 < (((b3145930).length : Nat) : Int)))) (
      needs (((0 : Int) ≤ x16) ∧ (x16 < (((b3145930).length : Nat) : Int))) (
      optAll ((b3145930)[(0 + (Int.toNat x16))]?) fun (r62 : List DV) =>
      optAll ((dInt IntKind.i64 r62 0)) fun (z63 : Int) =>
      cond ((z63 != (0 : Int))) (
        c = (false, ())) (
        H31 b3145930 (IntKind.i64.wrap (x16 + (1 : Int))) c))) (
      optAll (law07_live.R) fun (c64 : (Bool × Unit)) =>
      c = ((c64).1, ()))) : H31 b3145930 x16 c := head_rule (n := 400) (noSum_ok _) (by kernel_rfl) h
theorem H31_5242880_step (b4194506 : List (List DV)) (x16 : Int) (c : (Bool × Unit)) (h :
    cond (decide ((x16 < (((b4194506).length : Nat) : Int)))) (
      needs (((0 : Int) ≤ x16) ∧ (x16 < (((b4194506).length : Nat) : Int))) (
      optAll ((b4194506)[(0 + (Int.toNat x16))]?) fun (r65 : List DV) =>
      optAll ((dInt IntKind.i64 r65 0)) fun (z66 : Int) =>
      cond ((z66 != (0 : Int))) (
        c = (false, ())) (
        H31_5242880 b4194506 (IntKind.i64.wrap (x16 + (1 : Int))) c))) (
      optAll (law07_live.R) fun (c67 : (Bool × Unit)) =>
      c = ((c67).1, ()))) : H31_5242880 b4194506 x16 c := head_rule (n := 400) (noSum_ok _) (by kernel_rfl) h
end law07_GrabEnds
end Go.AI
