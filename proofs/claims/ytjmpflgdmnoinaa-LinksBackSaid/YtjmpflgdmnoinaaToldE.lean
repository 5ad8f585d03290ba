/-
  Own work: printed by Tell, a program of this work: what each function's body does over symbols.
-/
import Derived.Test.YtjmpflgdmnoinaaToldD
import Derived.KernelRfl
namespace Go.AI
open Go
set_option maxRecDepth 100000
set_option linter.unusedVariables false
set_option linter.unusedSimpArgs false
/-! garrison/garrisonref23.Encode -/
namespace ref23_Encode
def lv : Live := [((6, 1048576), [1, 4, 5], [252, 4, 9]), ((11, 2097152), [1, 4, 5, 6, 7, 8], [252, 4, 1048768, 9]), ((24, 2097152), [1, 4, 11], [252, 4, 9]), ((17, 3145728), [1, 4, 5, 6, 9, 10], [252, 4, 1048768, 9]), ((40, 3145728), [1, 4, 17], [252, 4, 9]), ((6, 1048576), [1, 4, 5], [252, 4, 9]), ((11, 2097152), [1, 4, 5, 6, 7, 8], [252, 4, 1048768, 9]), ((24, 2097152), [1, 4, 11], [252, 4, 9]), ((40, 3145728), [1, 4, 17], [252, 4, 9])]
abbrev H6 (x4 : Nat) (x5 : Int) (b252 : List (List DV)) (b252_1 : List (List DV)) (b252_2 : List (List DV)) (b252_3 : List (List DV)) (b252_4 : List (List DV)) (b252_5 : List (List DV)) (b252_6 : List (List DV)) (b252_7 : List (List DV)) (b4 : List (List DV)) (c : (List (List DV) × (Int × Unit))) : Prop := HeadAns cfg 30 sh lv (bd cfg 30 [1, 1, 1, 0, 1, 0, 0]) 1048576 [.inBlock 0, .code (bd cfg 30 [1, 1, 1, 1])]
  [(AV.ptr 252 0 0 0), (AV.ref 4 0 0 x4), (AV.d (DV.v (Value.int IntKind.i64 x5)))] [(Option.some (VBlk.cell 8 0 [(AV.d (DV.lst 8 b252)), (AV.d (DV.lst 1 b252_1)), (AV.d (DV.lst 1 b252_2)), (AV.d (DV.lst 4 b252_3)), (AV.d (DV.lst 3 b252_4)), (AV.d (DV.lst 1 b252_5)), (AV.d (DV.lst 1 b252_6)), (AV.d (DV.lst 4 b252_7))])), (Option.some (VBlk.drow 1 0 b4)), (Option.none)] 1048576 c
abbrev H11 (x4 : Nat) (x5 : Int) (x7 : Int) (x8 : Int) (b252 : List (List DV)) (b252_1 : List (List DV)) (b252_2 : List (List DV)) (b252_3 : List (List DV)) (b252_4 : List (List DV)) (b252_5 : List (List DV)) (b252_6 : List (List DV)) (b252_7 : List (List DV)) (b4 : List (List DV)) (b1048768 : Int) (b1048768_1 : Int) (b1048768_2 : Int) (b1048768_3 : Int) (b1048768_4 : Int) (b1048768_5 : Int) (b1048768_6 : Int) (b1048768_7 : Int) (c : (List (List DV) × (Int × Unit))) : Prop := HeadAns cfg 30 sh lv (bd cfg 30 [1, 1, 1, 0, 1, 0, 0, 1, 0, 0, 1, 1, 0, 1, 0, 0]) 2097152 [.inBlock 2, .code (bd cfg 30 [1, 1, 1, 0, 1, 0, 0, 1, 0, 0, 1, 1, 1]), .inBlock 1, .code (bd cfg 30 [1, 1, 1, 0, 1, 0, 0, 1, 1]), .inLoop (bd cfg 30 [1, 1, 1, 0, 1, 0, 0]) 1048576, .inBlock 0, .code (bd cfg 30 [1, 1, 1, 1])]
  [(AV.ptr 252 0 0 0), (AV.ref 4 0 0 x4), (AV.d (DV.v (Value.int IntKind.i64 x5))), (AV.ptr 1048768 0 0 0), (AV.d (DV.v (Value.int IntKind.i64 x7))), (AV.d (DV.v (Value.int IntKind.i64 x8)))] [(Option.some (VBlk.cell 8 0 [(AV.d (DV.lst 8 b252)), (AV.d (DV.lst 1 b252_1)), (AV.d (DV.lst 1 b252_2)), (AV.d (DV.lst 4 b252_3)), (AV.d (DV.lst 3 b252_4)), (AV.d (DV.lst 1 b252_5)), (AV.d (DV.lst 1 b252_6)), (AV.d (DV.lst 4 b252_7))])), (Option.some (VBlk.drow 1 0 b4)), (Option.some (VBlk.cell 8 0 [(AV.d (DV.v (Value.int IntKind.i64 b1048768))), (AV.d (DV.v (Value.int IntKind.i64 b1048768_1))), (AV.d (DV.v (Value.int IntKind.i64 b1048768_2))), (AV.d (DV.v (Value.int IntKind.i64 b1048768_3))), (AV.d (DV.v (Value.int IntKind.i64 b1048768_4))), (AV.d (DV.v (Value.int IntKind.i64 b1048768_5))), (AV.d (DV.v (Value.int IntKind.i64 b1048768_6))), (AV.d (DV.v (Value.int IntKind.i64 b1048768_7)))])), (Option.none)] 2097152 c
abbrev H24 (x4 : Nat) (x11 : Int) (b252 : List (List DV)) (b252_1 : List (List DV)) (b252_2 : List (List DV)) (b252_3 : List (List DV)) (b252_4 : List (List DV)) (b252_5 : List (List DV)) (b252_6 : List (List DV)) (b252_7 : List (List DV)) (b4 : List (List DV)) (c : (List (List DV) × (Int × Unit))) : Prop := HeadAns cfg 30 sh lv (bd cfg 30 [1, 1, 1, 1, 0, 1, 0, 0]) 2097152 [.inBlock 6, .code (bd cfg 30 [1, 1, 1, 1, 1])]
  [(AV.ptr 252 0 0 0), (AV.ref 4 0 0 x4), (AV.d (DV.v (Value.int IntKind.i64 x11)))] [(Option.some (VBlk.cell 8 0 [(AV.d (DV.lst 8 b252)), (AV.d (DV.lst 1 b252_1)), (AV.d (DV.lst 1 b252_2)), (AV.d (DV.lst 4 b252_3)), (AV.d (DV.lst 3 b252_4)), (AV.d (DV.lst 1 b252_5)), (AV.d (DV.lst 1 b252_6)), (AV.d (DV.lst 4 b252_7))])), (Option.some (VBlk.drow 1 0 b4)), (Option.none)] 2097152 c
abbrev H17 (x4 : Nat) (x5 : Int) (x9 : Nat) (x10 : Int) (b252 : List (List DV)) (b252_1 : List (List DV)) (b252_2 : List (List DV)) (b252_3 : List (List DV)) (b252_4 : List (List DV)) (b252_5 : List (List DV)) (b252_6 : List (List DV)) (b252_7 : List (List DV)) (b4 : List (List DV)) (b1048768 : Int) (b1048768_1 : Int) (b1048768_2 : Int) (b1048768_3 : Int) (b1048768_4 : Int) (b1048768_5 : Int) (b1048768_6 : Int) (b1048768_7 : Int) (b9 : List (List DV)) (c : (List (List DV) × (Int × Unit))) : Prop := HeadAns cfg 30 sh lv (bd cfg 30 [1, 1, 1, 0, 1, 0, 0, 1, 0, 0, 1, 1, 1, 1, 0, 1, 0, 0]) 3145728 [.inBlock 4, .code (bd cfg 30 [1, 1, 1, 0, 1, 0, 0, 1, 0, 0, 1, 1, 1, 1, 1]), .inBlock 1, .code (bd cfg 30 [1, 1, 1, 0, 1, 0, 0, 1, 1]), .inLoop (bd cfg 30 [1, 1, 1, 0, 1, 0, 0]) 1048576, .inBlock 0, .code (bd cfg 30 [1, 1, 1, 1])]
  [(AV.ptr 252 0 0 0), (AV.ref 4 0 0 x4), (AV.d (DV.v (Value.int IntKind.i64 x5))), (AV.ptr 1048768 0 0 0), (AV.ref 9 0 0 x9), (AV.d (DV.v (Value.int IntKind.i64 x10)))] [(Option.some (VBlk.cell 8 0 [(AV.d (DV.lst 8 b252)), (AV.d (DV.lst 1 b252_1)), (AV.d (DV.lst 1 b252_2)), (AV.d (DV.lst 4 b252_3)), (AV.d (DV.lst 3 b252_4)), (AV.d (DV.lst 1 b252_5)), (AV.d (DV.lst 1 b252_6)), (AV.d (DV.lst 4 b252_7))])), (Option.some (VBlk.drow 1 0 b4)), (Option.some (VBlk.cell 8 0 [(AV.d (DV.v (Value.int IntKind.i64 b1048768))), (AV.d (DV.v (Value.int IntKind.i64 b1048768_1))), (AV.d (DV.v (Value.int IntKind.i64 b1048768_2))), (AV.d (DV.v (Value.int IntKind.i64 b1048768_3))), (AV.d (DV.v (Value.int IntKind.i64 b1048768_4))), (AV.d (DV.v (Value.int IntKind.i64 b1048768_5))), (AV.d (DV.v (Value.int IntKind.i64 b1048768_6))), (AV.d (DV.v (Value.int IntKind.i64 b1048768_7)))])), (Option.some (VBlk.drow 1 0 b9))] 3145728 c
abbrev H40 (x4 : Nat) (x17 : Int) (b252 : List (List DV)) (b252_1 : List (List DV)) (b252_2 : List (List DV)) (b252_3 : List (List DV)) (b252_4 : List (List DV)) (b252_5 : List (List DV)) (b252_6 : List (List DV)) (b252_7 : List (List DV)) (b4 : List (List DV)) (c : (List (List DV) × (Int × Unit))) : Prop := HeadAns cfg 30 sh lv (bd cfg 30 [1, 1, 1, 1, 1, 0, 1, 0, 0]) 3145728 [.inBlock 8, .code (bd cfg 30 [1, 1, 1, 1, 1, 1])]
  [(AV.ptr 252 0 0 0), (AV.ref 4 0 0 x4), (AV.d (DV.v (Value.int IntKind.i64 x17)))] [(Option.some (VBlk.cell 8 0 [(AV.d (DV.lst 8 b252)), (AV.d (DV.lst 1 b252_1)), (AV.d (DV.lst 1 b252_2)), (AV.d (DV.lst 4 b252_3)), (AV.d (DV.lst 3 b252_4)), (AV.d (DV.lst 1 b252_5)), (AV.d (DV.lst 1 b252_6)), (AV.d (DV.lst 4 b252_7))])), (Option.some (VBlk.drow 1 0 b4)), (Option.none)] 3145728 c
abbrev H6_1048576 (x4 : Nat) (x5 : Int) (b252 : List (List DV)) (b252_1 : List (List DV)) (b252_2 : List (List DV)) (b252_3 : List (List DV)) (b252_4 : List (List DV)) (b252_5 : List (List DV)) (b252_6 : List (List DV)) (b252_7 : List (List DV)) (b4 : List (List DV)) (b9 : List (List DV)) (c : (List (List DV) × (Int × Unit))) : Prop := HeadAns cfg 30 sh lv (bd cfg 30 [1, 1, 1, 0, 1, 0, 0]) 1048576 [.inBlock 0, .code (bd cfg 30 [1, 1, 1, 1])]
  [(AV.ptr 252 0 0 0), (AV.ref 4 0 0 x4), (AV.d (DV.v (Value.int IntKind.i64 x5)))] [(Option.some (VBlk.cell 8 0 [(AV.d (DV.lst 8 b252)), (AV.d (DV.lst 1 b252_1)), (AV.d (DV.lst 1 b252_2)), (AV.d (DV.lst 4 b252_3)), (AV.d (DV.lst 3 b252_4)), (AV.d (DV.lst 1 b252_5)), (AV.d (DV.lst 1 b252_6)), (AV.d (DV.lst 4 b252_7))])), (Option.some (VBlk.drow 1 0 b4)), (Option.some (VBlk.drow 1 0 b9))] 1048576 c
abbrev H11_2097152 (x4 : Nat) (x5 : Int) (x7 : Int) (x8 : Int) (b252 : List (List DV)) (b252_1 : List (List DV)) (b252_2 : List (List DV)) (b252_3 : List (List DV)) (b252_4 : List (List DV)) (b252_5 : List (List DV)) (b252_6 : List (List DV)) (b252_7 : List (List DV)) (b4 : List (List DV)) (b1048768 : Int) (b1048768_1 : Int) (b1048768_2 : Int) (b1048768_3 : Int) (b1048768_4 : Int) (b1048768_5 : Int) (b1048768_6 : Int) (b1048768_7 : Int) (b9 : List (List DV)) (c : (List (List DV) × (Int × Unit))) : Prop := HeadAns cfg 30 sh lv (bd cfg 30 [1, 1, 1, 0, 1, 0, 0, 1, 0, 0, 1, 1, 0, 1, 0, 0]) 2097152 [.inBlock 2, .code (bd cfg 30 [1, 1, 1, 0, 1, 0, 0, 1, 0, 0, 1, 1, 1]), .inBlock 1, .code (bd cfg 30 [1, 1, 1, 0, 1, 0, 0, 1, 1]), .inLoop (bd cfg 30 [1, 1, 1, 0, 1, 0, 0]) 1048576, .inBlock 0, .code (bd cfg 30 [1, 1, 1, 1])]
  [(AV.ptr 252 0 0 0), (AV.ref 4 0 0 x4), (AV.d (DV.v (Value.int IntKind.i64 x5))), (AV.ptr 1048768 0 0 0), (AV.d (DV.v (Value.int IntKind.i64 x7))), (AV.d (DV.v (Value.int IntKind.i64 x8)))] [(Option.some (VBlk.cell 8 0 [(AV.d (DV.lst 8 b252)), (AV.d (DV.lst 1 b252_1)), (AV.d (DV.lst 1 b252_2)), (AV.d (DV.lst 4 b252_3)), (AV.d (DV.lst 3 b252_4)), (AV.d (DV.lst 1 b252_5)), (AV.d (DV.lst 1 b252_6)), (AV.d (DV.lst 4 b252_7))])), (Option.some (VBlk.drow 1 0 b4)), (Option.some (VBlk.cell 8 0 [(AV.d (DV.v (Value.int IntKind.i64 b1048768))), (AV.d (DV.v (Value.int IntKind.i64 b1048768_1))), (AV.d (DV.v (Value.int IntKind.i64 b1048768_2))), (AV.d (DV.v (Value.int IntKind.i64 b1048768_3))), (AV.d (DV.v (Value.int IntKind.i64 b1048768_4))), (AV.d (DV.v (Value.int IntKind.i64 b1048768_5))), (AV.d (DV.v (Value.int IntKind.i64 b1048768_6))), (AV.d (DV.v (Value.int IntKind.i64 b1048768_7)))])), (Option.some (VBlk.drow 1 0 b9))] 2097152 c
abbrev H24_2097152 (x4 : Nat) (x11 : Int) (b252 : List (List DV)) (b252_1 : List (List DV)) (b252_2 : List (List DV)) (b252_3 : List (List DV)) (b252_4 : List (List DV)) (b252_5 : List (List DV)) (b252_6 : List (List DV)) (b252_7 : List (List DV)) (b4 : List (List DV)) (b9 : List (List DV)) (c : (List (List DV) × (Int × Unit))) : Prop := HeadAns cfg 30 sh lv (bd cfg 30 [1, 1, 1, 1, 0, 1, 0, 0]) 2097152 [.inBlock 6, .code (bd cfg 30 [1, 1, 1, 1, 1])]
  [(AV.ptr 252 0 0 0), (AV.ref 4 0 0 x4), (AV.d (DV.v (Value.int IntKind.i64 x11)))] [(Option.some (VBlk.cell 8 0 [(AV.d (DV.lst 8 b252)), (AV.d (DV.lst 1 b252_1)), (AV.d (DV.lst 1 b252_2)), (AV.d (DV.lst 4 b252_3)), (AV.d (DV.lst 3 b252_4)), (AV.d (DV.lst 1 b252_5)), (AV.d (DV.lst 1 b252_6)), (AV.d (DV.lst 4 b252_7))])), (Option.some (VBlk.drow 1 0 b4)), (Option.some (VBlk.drow 1 0 b9))] 2097152 c
abbrev H40_3145728 (x4 : Nat) (x17 : Int) (b252 : List (List DV)) (b252_1 : List (List DV)) (b252_2 : List (List DV)) (b252_3 : List (List DV)) (b252_4 : List (List DV)) (b252_5 : List (List DV)) (b252_6 : List (List DV)) (b252_7 : List (List DV)) (b4 : List (List DV)) (b9 : List (List DV)) (c : (List (List DV) × (Int × Unit))) : Prop := HeadAns cfg 30 sh lv (bd cfg 30 [1, 1, 1, 1, 1, 0, 1, 0, 0]) 3145728 [.inBlock 8, .code (bd cfg 30 [1, 1, 1, 1, 1, 1])]
  [(AV.ptr 252 0 0 0), (AV.ref 4 0 0 x4), (AV.d (DV.v (Value.int IntKind.i64 x17)))] [(Option.some (VBlk.cell 8 0 [(AV.d (DV.lst 8 b252)), (AV.d (DV.lst 1 b252_1)), (AV.d (DV.lst 1 b252_2)), (AV.d (DV.lst 4 b252_3)), (AV.d (DV.lst 3 b252_4)), (AV.d (DV.lst 1 b252_5)), (AV.d (DV.lst 1 b252_6)), (AV.d (DV.lst 4 b252_7))])), (Option.some (VBlk.drow 1 0 b4)), (Option.some (VBlk.drow 1 0 b9))] 3145728 c
theorem start (a0_0 : List (List DV)) (a0_1 : List (List DV)) (a0_2 : List (List DV)) (a0_3 : List (List DV)) (a0_4 : List (List DV)) (a0_5 : List (List DV)) (a0_6 : List (List DV)) (a0_7 : List (List DV)) (c : (List (List DV) × (Int × Unit))) (h :
    optAll (ref23_Fits.R a0_0 a0_1 a0_2 a0_3 a0_4 a0_5 a0_6 a0_7) fun (c0 : (Bool × Unit)) =>
    cond ((!(c0).1)) (
      c = ([], ((2 : Int), ()))) (
      H6 4096 (0 : Int) a0_0 a0_1 a0_2 a0_3 a0_4 a0_5 a0_6 a0_7 (List.replicate (4096) [(DV.v (Value.int IntKind.i64 (0 : Int)))]) c)) : R a0_0 a0_1 a0_2 a0_3 a0_4 a0_5 a0_6 a0_7 = some c := start_rule (n := 400) (lv := lv) (unSum_ok cfg 2 [55]) (by kernel_rfl) h
theorem H6_step (x4 : Nat) (x5 : Int) (b252 : List (List DV)) (b252_1 : List (List DV)) (b252_2 : List (List DV)) (b252_3 : List (List DV)) (b252_4 : List (List DV)) (b252_5 : List (List DV)) (b252_6 : List (List DV)) (b252_7 : List (List DV)) (b4 : List (List DV)) (c : (List (List DV) × (Int × Unit))) (h :
    cond (decide ((x5 < (((b252).length : Nat) : Int)))) (
      needs ((0 : Int) ≤ x5) (
      optAll ((b252)[(Int.toNat x5)]?) fun (r1 : List DV) =>
      optAll ((dInt IntKind.i64 r1 0)) fun (z2 : Int) =>
      optAll ((dInt IntKind.i64 r1 1)) fun (z3 : Int) =>
      optAll ((dInt IntKind.i64 r1 2)) fun (z4 : Int) =>
      optAll ((dInt IntKind.i64 r1 3)) fun (z5 : Int) =>
      optAll ((dInt IntKind.i64 r1 4)) fun (z6 : Int) =>
      optAll ((dInt IntKind.i64 r1 5)) fun (z7 : Int) =>
      optAll ((dInt IntKind.i64 r1 6)) fun (z8 : Int) =>
      optAll ((dInt IntKind.i64 r1 7)) fun (z9 : Int) =>
      H11 x4 x5 (0 : Int) (0 : Int) b252 b252_1 b252_2 b252_3 b252_4 b252_5 b252_6 b252_7 b4 z2 z3 z4 z5 z6 z7 z8 z9 c)) (
      H24 x4 (0 : Int) b252 b252_1 b252_2 b252_3 b252_4 b252_5 b252_6 b252_7 b4 c)) : H6 x4 x5 b252 b252_1 b252_2 b252_3 b252_4 b252_5 b252_6 b252_7 b4 c := head_rule (n := 400) (unSum_ok cfg 2 [55]) (by kernel_rfl) h
theorem H11_step (x4 : Nat) (x5 : Int) (x7 : Int) (x8 : Int) (b252 : List (List DV)) (b252_1 : List (List DV)) (b252_2 : List (List DV)) (b252_3 : List (List DV)) (b252_4 : List (List DV)) (b252_5 : List (List DV)) (b252_6 : List (List DV)) (b252_7 : List (List DV)) (b4 : List (List DV)) (b1048768 : Int) (b1048768_1 : Int) (b1048768_2 : Int) (b1048768_3 : Int) (b1048768_4 : Int) (b1048768_5 : Int) (b1048768_6 : Int) (b1048768_7 : Int) (c : (List (List DV) × (Int × Unit))) (h :
    cond (decide ((x8 < (((b252).length : Nat) : Int)))) (
      needs ((0 : Int) ≤ x8) (
      optAll ((b252)[(Int.toNat x8)]?) fun (r10 : List DV) =>
      optAll ((dInt IntKind.i64 r10 0)) fun (z11 : Int) =>
      optAll ((dInt IntKind.i64 r10 1)) fun (z12 : Int) =>
      optAll ((dInt IntKind.i64 r10 2)) fun (z13 : Int) =>
      optAll ((dInt IntKind.i64 r10 3)) fun (z14 : Int) =>
      optAll ((dInt IntKind.i64 r10 4)) fun (z15 : Int) =>
      optAll ((dInt IntKind.i64 r10 5)) fun (z16 : Int) =>
      optAll ((dInt IntKind.i64 r10 6)) fun (z17 : Int) =>
      optAll ((dInt IntKind.i64 r10 7)) fun (z18 : Int) =>
      optAll (ref09_Live.R z11 z12 z13 z14 z15 z16 z17 z18) fun (c19 : (Bool × Unit)) =>
      cond ((c19).1) (
        needs ((0 : Int) ≤ x8) (
        optAll ((b252)[(Int.toNat x8)]?) fun (r20 : List DV) =>
        optAll ((dInt IntKind.i64 r20 6)) fun (z21 : Int) =>
        cond ((z21 == x5)) (
          H11 x4 x5 (IntKind.i64.wrap (x7 + (1 : Int))) (IntKind.i64.wrap (x8 + (1 : Int))) b252 b252_1 b252_2 b252_3 b252_4 b252_5 b252_6 b252_7 b4 b1048768 b1048768_1 b1048768_2 b1048768_3 b1048768_4 b1048768_5 b1048768_6 b1048768_7 c) (
          H11 x4 x5 x7 (IntKind.i64.wrap (x8 + (1 : Int))) b252 b252_1 b252_2 b252_3 b252_4 b252_5 b252_6 b252_7 b4 b1048768 b1048768_1 b1048768_2 b1048768_3 b1048768_4 b1048768_5 b1048768_6 b1048768_7 c))) (
        H11 x4 x5 x7 (IntKind.i64.wrap (x8 + (1 : Int))) b252 b252_1 b252_2 b252_3 b252_4 b252_5 b252_6 b252_7 b4 b1048768 b1048768_1 b1048768_2 b1048768_3 b1048768_4 b1048768_5 b1048768_6 b1048768_7 c))) (
      H17 x4 x5 10 (0 : Int) b252 b252_1 b252_2 b252_3 b252_4 b252_5 b252_6 b252_7 b4 b1048768 b1048768_1 b1048768_2 b1048768_3 b1048768_4 b1048768_5 b1048768_6 b1048768_7 [[(DV.v (Value.int IntKind.i64 (0 : Int)))], [(DV.v (Value.int IntKind.i64 b1048768))], [(DV.v (Value.int IntKind.i64 b1048768_1))], [(DV.v (Value.int IntKind.i64 b1048768_2))], [(DV.v (Value.int IntKind.i64 b1048768_3))], [(DV.v (Value.int IntKind.i64 b1048768_4))], [(DV.v (Value.int IntKind.i64 b1048768_5))], [(DV.v (Value.int IntKind.i64 (IntKind.i64.wrap (b1048768_6 + (1 : Int)))))], [(DV.v (Value.int IntKind.i64 (0 : Int)))], [(DV.v (Value.int IntKind.i64 x7))]] c)) : H11 x4 x5 x7 x8 b252 b252_1 b252_2 b252_3 b252_4 b252_5 b252_6 b252_7 b4 b1048768 b1048768_1 b1048768_2 b1048768_3 b1048768_4 b1048768_5 b1048768_6 b1048768_7 c := head_rule (n := 400) (unSum_ok cfg 2 [55]) (by kernel_rfl) h
theorem H24_step (x4 : Nat) (x11 : Int) (b252 : List (List DV)) (b252_1 : List (List DV)) (b252_2 : List (List DV)) (b252_3 : List (List DV)) (b252_4 : List (List DV)) (b252_5 : List (List DV)) (b252_6 : List (List DV)) (b252_7 : List (List DV)) (b4 : List (List DV)) (c : (List (List DV) × (Int × Unit))) (h :
    cond (decide ((x11 < (((b252_3).length : Nat) : Int)))) (
      needs ((0 : Int) ≤ x11) (
      optAll ((b252_3)[(Int.toNat x11)]?) fun (r22 : List DV) =>
      optAll ((dInt IntKind.i64 r22 0)) fun (z23 : Int) =>
      optAll ((dInt IntKind.i64 r22 1)) fun (z24 : Int) =>
      optAll (ref23_Code.R z23 z24) fun (c25 : (Int × Unit)) =>
      cond (((c25).1 == (0 : Int))) (
        H24 x4 (IntKind.i64.wrap (x11 + (1 : Int))) b252 b252_1 b252_2 b252_3 b252_4 b252_5 b252_6 b252_7 b4 c) (
        optAll (ref12_Get.R b252_2 z23 z24) fun (c26 : ((Int × (Int × (Int × (Int × (Int × Unit))))) × (Bool × Unit))) =>
        optAll (ref03_Word.R ((c26).1).1 (((c26).1).2).1 ((((c26).1).2).2).1 (((((c26).1).2).2).2).1 ((((((c26).1).2).2).2).2).1) fun (c27 : (Int × (Int × Unit))) =>
        optAll (ref23_Slot.R z23 z24 (1 : Int)) fun (c28 : (Int × Unit)) =>
        needs (((0 : Int) ≤ (c28).1) ∧ ((c28).1 < ((x4 : Nat) : Int))) (
        optAll ((b4)[(0 + (Int.toNat (c28).1))]?) fun (r29 : List DV) =>
        needs (1 ≤ (r29).length) (
        optAll (ref23_Slot.R z23 z24 (2 : Int)) fun (c30 : (Int × Unit)) =>
        needs (((0 : Int) ≤ (c30).1) ∧ ((c30).1 < ((x4 : Nat) : Int))) (
        optAll ((((b4).set ((0 + (Int.toNat (c28).1))) (putD r29 0 [(DV.v (Value.int IntKind.i64 (IntKind.i64.wrap (c27).1)))])))[(0 + (Int.toNat (c30).1))]?) fun (r31 : List DV) =>
        needs (1 ≤ (r31).length) (
        optAll (ref23_Slot.R z23 z24 (3 : Int)) fun (c32 : (Int × Unit)) =>
        needs (((0 : Int) ≤ (c32).1) ∧ ((c32).1 < ((x4 : Nat) : Int))) (
        optAll ((((((b4).set ((0 + (Int.toNat (c28).1))) (putD r29 0 [(DV.v (Value.int IntKind.i64 (IntKind.i64.wrap (c27).1)))]))).set ((0 + (Int.toNat (c30).1))) (putD r31 0 [(DV.v (Value.int IntKind.i64 (0 : Int)))])))[(0 + (Int.toNat (c32).1))]?) fun (r33 : List DV) =>
        needs (1 ≤ (r33).length) (
        cond (decide ((x11 > (0 : Int)))) (
          optAll (ref23_Slot.R z23 z24 (2 : Int)) fun (c34 : (Int × Unit)) =>
          needs ((0 : Int) ≤ (IntKind.i64.wrap (x11 - (1 : Int)))) (
          optAll ((b252_3)[(Int.toNat (IntKind.i64.wrap (x11 - (1 : Int))))]?) fun (r35 : List DV) =>
          optAll ((dInt IntKind.i64 r35 0)) fun (z36 : Int) =>
          optAll ((dInt IntKind.i64 r35 1)) fun (z37 : Int) =>
          optAll (ref23_Code.R z36 z37) fun (c38 : (Int × Unit)) =>
          needs (((0 : Int) ≤ (c34).1) ∧ ((c34).1 < ((x4 : Nat) : Int))) (
          optAll ((((((((b4).set ((0 + (Int.toNat (c28).1))) (putD r29 0 [(DV.v (Value.int IntKind.i64 (IntKind.i64.wrap (c27).1)))]))).set ((0 + (Int.toNat (c30).1))) (putD r31 0 [(DV.v (Value.int IntKind.i64 (0 : Int)))]))).set ((0 + (Int.toNat (c32).1))) (putD r33 0 [(DV.v (Value.int IntKind.i64 (0 : Int)))])))[(0 + (Int.toNat (c34).1))]?) fun (r39 : List DV) =>
          needs (1 ≤ (r39).length) (
          cond (decide (((IntKind.i64.wrap (x11 + (1 : Int))) < (((b252_3).length : Nat) : Int)))) (
            optAll (ref23_Slot.R z23 z24 (3 : Int)) fun (c40 : (Int × Unit)) =>
            needs ((0 : Int) ≤ (IntKind.i64.wrap (x11 + (1 : Int)))) (
            optAll ((b252_3)[(Int.toNat (IntKind.i64.wrap (x11 + (1 : Int))))]?) fun (r41 : List DV) =>
            optAll ((dInt IntKind.i64 r41 0)) fun (z42 : Int) =>
            optAll ((dInt IntKind.i64 r41 1)) fun (z43 : Int) =>
            optAll (ref23_Code.R z42 z43) fun (c44 : (Int × Unit)) =>
            needs (((0 : Int) ≤ (c40).1) ∧ ((c40).1 < ((x4 : Nat) : Int))) (
            optAll ((((((((((b4).set ((0 + (Int.toNat (c28).1))) (putD r29 0 [(DV.v (Value.int IntKind.i64 (IntKind.i64.wrap (c27).1)))]))).set ((0 + (Int.toNat (c30).1))) (putD r31 0 [(DV.v (Value.int IntKind.i64 (0 : Int)))]))).set ((0 + (Int.toNat (c32).1))) (putD r33 0 [(DV.v (Value.int IntKind.i64 (0 : Int)))]))).set ((0 + (Int.toNat (c34).1))) (putD r39 0 [(DV.v (Value.int IntKind.i64 (c38).1))])))[(0 + (Int.toNat (c40).1))]?) fun (r45 : List DV) =>
            needs (1 ≤ (r45).length) (
            optAll (ref23_Slot.R z23 z24 (4 : Int)) fun (c46 : (Int × Unit)) =>
            needs ((0 : Int) ≤ x11) (
            optAll ((b252_3)[(Int.toNat x11)]?) fun (r47 : List DV) =>
            optAll ((dInt IntKind.i64 r47 2)) fun (z48 : Int) =>
            needs (((0 : Int) ≤ (c46).1) ∧ ((c46).1 < ((x4 : Nat) : Int))) (
            optAll ((((((((((((b4).set ((0 + (Int.toNat (c28).1))) (putD r29 0 [(DV.v (Value.int IntKind.i64 (IntKind.i64.wrap (c27).1)))]))).set ((0 + (Int.toNat (c30).1))) (putD r31 0 [(DV.v (Value.int IntKind.i64 (0 : Int)))]))).set ((0 + (Int.toNat (c32).1))) (putD r33 0 [(DV.v (Value.int IntKind.i64 (0 : Int)))]))).set ((0 + (Int.toNat (c34).1))) (putD r39 0 [(DV.v (Value.int IntKind.i64 (c38).1))]))).set ((0 + (Int.toNat (c40).1))) (putD r45 0 [(DV.v (Value.int IntKind.i64 (c44).1))])))[(0 + (Int.toNat (c46).1))]?) fun (r49 : List DV) =>
            needs (1 ≤ (r49).length) (
            optAll (ref23_Slot.R z23 z24 (5 : Int)) fun (c50 : (Int × Unit)) =>
            needs ((0 : Int) ≤ x11) (
            optAll ((b252_3)[(Int.toNat x11)]?) fun (r51 : List DV) =>
            optAll ((dBool r51 3)) fun (z52 : Bool) =>
            optAll (ref23_bit.R z52) fun (c53 : (Int × Unit)) =>
            optAll (ref23_swept.R b252 b252_1 b252_2 b252_3 b252_4 b252_5 b252_6 b252_7 z23 z24) fun (c54 : (Bool × Unit)) =>
            optAll (ref23_bit.R (c54).1) fun (c55 : (Int × Unit)) =>
            needs (((0 : Int) ≤ (c50).1) ∧ ((c50).1 < ((x4 : Nat) : Int))) (
            optAll ((((((((((((((b4).set ((0 + (Int.toNat (c28).1))) (putD r29 0 [(DV.v (Value.int IntKind.i64 (IntKind.i64.wrap (c27).1)))]))).set ((0 + (Int.toNat (c30).1))) (putD r31 0 [(DV.v (Value.int IntKind.i64 (0 : Int)))]))).set ((0 + (Int.toNat (c32).1))) (putD r33 0 [(DV.v (Value.int IntKind.i64 (0 : Int)))]))).set ((0 + (Int.toNat (c34).1))) (putD r39 0 [(DV.v (Value.int IntKind.i64 (c38).1))]))).set ((0 + (Int.toNat (c40).1))) (putD r45 0 [(DV.v (Value.int IntKind.i64 (c44).1))]))).set ((0 + (Int.toNat (c46).1))) (putD r49 0 [(DV.v (Value.int IntKind.i64 z48))])))[(0 + (Int.toNat (c50).1))]?) fun (r56 : List DV) =>
            needs (1 ≤ (r56).length) (
            H24 x4 (IntKind.i64.wrap (x11 + (1 : Int))) b252 b252_1 b252_2 b252_3 b252_4 b252_5 b252_6 b252_7 ((((((((((((((b4).set ((0 + (Int.toNat (c28).1))) (putD r29 0 [(DV.v (Value.int IntKind.i64 (IntKind.i64.wrap (c27).1)))]))).set ((0 + (Int.toNat (c30).1))) (putD r31 0 [(DV.v (Value.int IntKind.i64 (0 : Int)))]))).set ((0 + (Int.toNat (c32).1))) (putD r33 0 [(DV.v (Value.int IntKind.i64 (0 : Int)))]))).set ((0 + (Int.toNat (c34).1))) (putD r39 0 [(DV.v (Value.int IntKind.i64 (c38).1))]))).set ((0 + (Int.toNat (c40).1))) (putD r45 0 [(DV.v (Value.int IntKind.i64 (c44).1))]))).set ((0 + (Int.toNat (c46).1))) (putD r49 0 [(DV.v (Value.int IntKind.i64 z48))]))).set ((0 + (Int.toNat (c50).1))) (putD r56 0 [(DV.v (Value.int IntKind.i64 (IntKind.i64.wrap ((c53).1 + (IntKind.i64.wrap ((2 : Int) * (c55).1))))))])) c)))))))))) (
            optAll (ref23_Slot.R z23 z24 (4 : Int)) fun (c57 : (Int × Unit)) =>
            needs ((0 : Int) ≤ x11) (
            optAll ((b252_3)[(Int.toNat x11)]?) fun (r58 : List DV) =>
            optAll ((dInt IntKind.i64 r58 2)) fun (z59 : Int) =>
            needs (((0 : Int) ≤ (c57).1) ∧ ((c57).1 < ((x4 : Nat) : Int))) (
            optAll ((((((((((b4).set ((0 + (Int.toNat (c28).1))) (putD r29 0 [(DV.v (Value.int IntKind.i64 (IntKind.i64.wrap (c27).1)))]))).set ((0 + (Int.toNat (c30).1))) (putD r31 0 [(DV.v (Value.int IntKind.i64 (0 : Int)))]))).set ((0 + (Int.toNat (c32).1))) (putD r33 0 [(DV.v (Value.int IntKind.i64 (0 : Int)))]))).set ((0 + (Int.toNat (c34).1))) (putD r39 0 [(DV.v (Value.int IntKind.i64 (c38).1))])))[(0 + (Int.toNat (c57).1))]?) fun (r60 : List DV) =>
            needs (1 ≤ (r60).length) (
            optAll (ref23_Slot.R z23 z24 (5 : Int)) fun (c61 : (Int × Unit)) =>
            needs ((0 : Int) ≤ x11) (
            optAll ((b252_3)[(Int.toNat x11)]?) fun (r62 : List DV) =>
            optAll ((dBool r62 3)) fun (z63 : Bool) =>
            optAll (ref23_bit.R z63) fun (c64 : (Int × Unit)) =>
            optAll (ref23_swept.R b252 b252_1 b252_2 b252_3 b252_4 b252_5 b252_6 b252_7 z23 z24) fun (c65 : (Bool × Unit)) =>
            optAll (ref23_bit.R (c65).1) fun (c66 : (Int × Unit)) =>
            needs (((0 : Int) ≤ (c61).1) ∧ ((c61).1 < ((x4 : Nat) : Int))) (
            optAll ((((((((((((b4).set ((0 + (Int.toNat (c28).1))) (putD r29 0 [(DV.v (Value.int IntKind.i64 (IntKind.i64.wrap (c27).1)))]))).set ((0 + (Int.toNat (c30).1))) (putD r31 0 [(DV.v (Value.int IntKind.i64 (0 : Int)))]))).set ((0 + (Int.toNat (c32).1))) (putD r33 0 [(DV.v (Value.int IntKind.i64 (0 : Int)))]))).set ((0 + (Int.toNat (c34).1))) (putD r39 0 [(DV.v (Value.int IntKind.i64 (c38).1))]))).set ((0 + (Int.toNat (c57).1))) (putD r60 0 [(DV.v (Value.int IntKind.i64 z59))])))[(0 + (Int.toNat (c61).1))]?) fun (r67 : List DV) =>
            needs (1 ≤ (r67).length) (
            H24 x4 (IntKind.i64.wrap (x11 + (1 : Int))) b252 b252_1 b252_2 b252_3 b252_4 b252_5 b252_6 b252_7 ((((((((((((b4).set ((0 + (Int.toNat (c28).1))) (putD r29 0 [(DV.v (Value.int IntKind.i64 (IntKind.i64.wrap (c27).1)))]))).set ((0 + (Int.toNat (c30).1))) (putD r31 0 [(DV.v (Value.int IntKind.i64 (0 : Int)))]))).set ((0 + (Int.toNat (c32).1))) (putD r33 0 [(DV.v (Value.int IntKind.i64 (0 : Int)))]))).set ((0 + (Int.toNat (c34).1))) (putD r39 0 [(DV.v (Value.int IntKind.i64 (c38).1))]))).set ((0 + (Int.toNat (c57).1))) (putD r60 0 [(DV.v (Value.int IntKind.i64 z59))]))).set ((0 + (Int.toNat (c61).1))) (putD r67 0 [(DV.v (Value.int IntKind.i64 (IntKind.i64.wrap ((c64).1 + (IntKind.i64.wrap ((2 : Int) * (c66).1))))))])) c))))))))))) (
          cond (decide (((IntKind.i64.wrap (x11 + (1 : Int))) < (((b252_3).length : Nat) : Int)))) (
            optAll (ref23_Slot.R z23 z24 (3 : Int)) fun (c68 : (Int × Unit)) =>
            needs ((0 : Int) ≤ (IntKind.i64.wrap (x11 + (1 : Int)))) (
            optAll ((b252_3)[(Int.toNat (IntKind.i64.wrap (x11 + (1 : Int))))]?) fun (r69 : List DV) =>
            optAll ((dInt IntKind.i64 r69 0)) fun (z70 : Int) =>
            optAll ((dInt IntKind.i64 r69 1)) fun (z71 : Int) =>
            optAll (ref23_Code.R z70 z71) fun (c72 : (Int × Unit)) =>
            needs (((0 : Int) ≤ (c68).1) ∧ ((c68).1 < ((x4 : Nat) : Int))) (
            optAll ((((((((b4).set ((0 + (Int.toNat (c28).1))) (putD r29 0 [(DV.v (Value.int IntKind.i64 (IntKind.i64.wrap (c27).1)))]))).set ((0 + (Int.toNat (c30).1))) (putD r31 0 [(DV.v (Value.int IntKind.i64 (0 : Int)))]))).set ((0 + (Int.toNat (c32).1))) (putD r33 0 [(DV.v (Value.int IntKind.i64 (0 : Int)))])))[(0 + (Int.toNat (c68).1))]?) fun (r73 : List DV) =>
            needs (1 ≤ (r73).length) (
            optAll (ref23_Slot.R z23 z24 (4 : Int)) fun (c74 : (Int × Unit)) =>
            needs ((0 : Int) ≤ x11) (
            optAll ((b252_3)[(Int.toNat x11)]?) fun (r75 : List DV) =>
            optAll ((dInt IntKind.i64 r75 2)) fun (z76 : Int) =>
            needs (((0 : Int) ≤ (c74).1) ∧ ((c74).1 < ((x4 : Nat) : Int))) (
            optAll ((((((((((b4).set ((0 + (Int.toNat (c28).1))) (putD r29 0 [(DV.v (Value.int IntKind.i64 (IntKind.i64.wrap (c27).1)))]))).set ((0 + (Int.toNat (c30).1))) (putD r31 0 [(DV.v (Value.int IntKind.i64 (0 : Int)))]))).set ((0 + (Int.toNat (c32).1))) (putD r33 0 [(DV.v (Value.int IntKind.i64 (0 : Int)))]))).set ((0 + (Int.toNat (c68).1))) (putD r73 0 [(DV.v (Value.int IntKind.i64 (c72).1))])))[(0 + (Int.toNat (c74).1))]?) fun (r77 : List DV) =>
            needs (1 ≤ (r77).length) (
            optAll (ref23_Slot.R z23 z24 (5 : Int)) fun (c78 : (Int × Unit)) =>
            needs ((0 : Int) ≤ x11) (
            optAll ((b252_3)[(Int.toNat x11)]?) fun (r79 : List DV) =>
            optAll ((dBool r79 3)) fun (z80 : Bool) =>
            optAll (ref23_bit.R z80) fun (c81 : (Int × Unit)) =>
            optAll (ref23_swept.R b252 b252_1 b252_2 b252_3 b252_4 b252_5 b252_6 b252_7 z23 z24) fun (c82 : (Bool × Unit)) =>
            optAll (ref23_bit.R (c82).1) fun (c83 : (Int × Unit)) =>
            needs (((0 : Int) ≤ (c78).1) ∧ ((c78).1 < ((x4 : Nat) : Int))) (
            optAll ((((((((((((b4).set ((0 + (Int.toNat (c28).1))) (putD r29 0 [(DV.v (Value.int IntKind.i64 (IntKind.i64.wrap (c27).1)))]))).set ((0 + (Int.toNat (c30).1))) (putD r31 0 [(DV.v (Value.int IntKind.i64 (0 : Int)))]))).set ((0 + (Int.toNat (c32).1))) (putD r33 0 [(DV.v (Value.int IntKind.i64 (0 : Int)))]))).set ((0 + (Int.toNat (c68).1))) (putD r73 0 [(DV.v (Value.int IntKind.i64 (c72).1))]))).set ((0 + (Int.toNat (c74).1))) (putD r77 0 [(DV.v (Value.int IntKind.i64 z76))])))[(0 + (Int.toNat (c78).1))]?) fun (r84 : List DV) =>
            needs (1 ≤ (r84).length) (
            H24 x4 (IntKind.i64.wrap (x11 + (1 : Int))) b252 b252_1 b252_2 b252_3 b252_4 b252_5 b252_6 b252_7 ((((((((((((b4).set ((0 + (Int.toNat (c28).1))) (putD r29 0 [(DV.v (Value.int IntKind.i64 (IntKind.i64.wrap (c27).1)))]))).set ((0 + (Int.toNat (c30).1))) (putD r31 0 [(DV.v (Value.int IntKind.i64 (0 : Int)))]))).set ((0 + (Int.toNat (c32).1))) (putD r33 0 [(DV.v (Value.int IntKind.i64 (0 : Int)))]))).set ((0 + (Int.toNat (c68).1))) (putD r73 0 [(DV.v (Value.int IntKind.i64 (c72).1))]))).set ((0 + (Int.toNat (c74).1))) (putD r77 0 [(DV.v (Value.int IntKind.i64 z76))]))).set ((0 + (Int.toNat (c78).1))) (putD r84 0 [(DV.v (Value.int IntKind.i64 (IntKind.i64.wrap ((c81).1 + (IntKind.i64.wrap ((2 : Int) * (c83).1))))))])) c)))))))))) (
            optAll (ref23_Slot.R z23 z24 (4 : Int)) fun (c85 : (Int × Unit)) =>
            needs ((0 : Int) ≤ x11) (
            optAll ((b252_3)[(Int.toNat x11)]?) fun (r86 : List DV) =>
            optAll ((dInt IntKind.i64 r86 2)) fun (z87 : Int) =>
            needs (((0 : Int) ≤ (c85).1) ∧ ((c85).1 < ((x4 : Nat) : Int))) (
            optAll ((((((((b4).set ((0 + (Int.toNat (c28).1))) (putD r29 0 [(DV.v (Value.int IntKind.i64 (IntKind.i64.wrap (c27).1)))]))).set ((0 + (Int.toNat (c30).1))) (putD r31 0 [(DV.v (Value.int IntKind.i64 (0 : Int)))]))).set ((0 + (Int.toNat (c32).1))) (putD r33 0 [(DV.v (Value.int IntKind.i64 (0 : Int)))])))[(0 + (Int.toNat (c85).1))]?) fun (r88 : List DV) =>
            needs (1 ≤ (r88).length) (
            optAll (ref23_Slot.R z23 z24 (5 : Int)) fun (c89 : (Int × Unit)) =>
            needs ((0 : Int) ≤ x11) (
            optAll ((b252_3)[(Int.toNat x11)]?) fun (r90 : List DV) =>
            optAll ((dBool r90 3)) fun (z91 : Bool) =>
            optAll (ref23_bit.R z91) fun (c92 : (Int × Unit)) =>
            optAll (ref23_swept.R b252 b252_1 b252_2 b252_3 b252_4 b252_5 b252_6 b252_7 z23 z24) fun (c93 : (Bool × Unit)) =>
            optAll (ref23_bit.R (c93).1) fun (c94 : (Int × Unit)) =>
            needs (((0 : Int) ≤ (c89).1) ∧ ((c89).1 < ((x4 : Nat) : Int))) (
            optAll ((((((((((b4).set ((0 + (Int.toNat (c28).1))) (putD r29 0 [(DV.v (Value.int IntKind.i64 (IntKind.i64.wrap (c27).1)))]))).set ((0 + (Int.toNat (c30).1))) (putD r31 0 [(DV.v (Value.int IntKind.i64 (0 : Int)))]))).set ((0 + (Int.toNat (c32).1))) (putD r33 0 [(DV.v (Value.int IntKind.i64 (0 : Int)))]))).set ((0 + (Int.toNat (c85).1))) (putD r88 0 [(DV.v (Value.int IntKind.i64 z87))])))[(0 + (Int.toNat (c89).1))]?) fun (r95 : List DV) =>
            needs (1 ≤ (r95).length) (
            H24 x4 (IntKind.i64.wrap (x11 + (1 : Int))) b252 b252_1 b252_2 b252_3 b252_4 b252_5 b252_6 b252_7 ((((((((((b4).set ((0 + (Int.toNat (c28).1))) (putD r29 0 [(DV.v (Value.int IntKind.i64 (IntKind.i64.wrap (c27).1)))]))).set ((0 + (Int.toNat (c30).1))) (putD r31 0 [(DV.v (Value.int IntKind.i64 (0 : Int)))]))).set ((0 + (Int.toNat (c32).1))) (putD r33 0 [(DV.v (Value.int IntKind.i64 (0 : Int)))]))).set ((0 + (Int.toNat (c85).1))) (putD r88 0 [(DV.v (Value.int IntKind.i64 z87))]))).set ((0 + (Int.toNat (c89).1))) (putD r95 0 [(DV.v (Value.int IntKind.i64 (IntKind.i64.wrap ((c92).1 + (IntKind.i64.wrap ((2 : Int) * (c94).1))))))])) c))))))))))))))))) (
      H40 x4 (0 : Int) b252 b252_1 b252_2 b252_3 b252_4 b252_5 b252_6 b252_7 b4 c)) : H24 x4 x11 b252 b252_1 b252_2 b252_3 b252_4 b252_5 b252_6 b252_7 b4 c := head_rule (n := 400) (unSum_ok cfg 2 [55]) (by kernel_rfl) h
theorem H17_step (x4 : Nat) (x5 : Int) (x9 : Nat) (x10 : Int) (b252 : List (List DV)) (b252_1 : List (List DV)) (b252_2 : List (List DV)) (b252_3 : List (List DV)) (b252_4 : List (List DV)) (b252_5 : List (List DV)) (b252_6 : List (List DV)) (b252_7 : List (List DV)) (b4 : List (List DV)) (b1048768 : Int) (b1048768_1 : Int) (b1048768_2 : Int) (b1048768_3 : Int) (b1048768_4 : Int) (b1048768_5 : Int) (b1048768_6 : Int) (b1048768_7 : Int) (b9 : List (List DV)) (c : (List (List DV) × (Int × Unit))) (h :
    cond (decide ((x10 < ((x9 : Nat) : Int)))) (
      optAll (ref23_Object.R x5 x10) fun (c96 : (Int × Unit)) =>
      needs (((0 : Int) ≤ x10) ∧ (x10 < ((x9 : Nat) : Int))) (
      optAll ((b9)[(0 + (Int.toNat x10))]?) fun (r97 : List DV) =>
      optAll ((dInt IntKind.i64 r97 0)) fun (z98 : Int) =>
      needs (((0 : Int) ≤ (c96).1) ∧ ((c96).1 < ((x4 : Nat) : Int))) (
      optAll ((b4)[(0 + (Int.toNat (c96).1))]?) fun (r99 : List DV) =>
      needs (1 ≤ (r99).length) (
      H17 x4 x5 x9 (IntKind.i64.wrap (x10 + (1 : Int))) b252 b252_1 b252_2 b252_3 b252_4 b252_5 b252_6 b252_7 ((b4).set ((0 + (Int.toNat (c96).1))) (putD r99 0 [(DV.v (Value.int IntKind.i64 z98))])) b1048768 b1048768_1 b1048768_2 b1048768_3 b1048768_4 b1048768_5 b1048768_6 b1048768_7 b9 c)))) (
      optAll (ref23_Object.R x5 (8 : Int)) fun (c100 : (Int × Unit)) =>
      needs (((0 : Int) ≤ (c100).1) ∧ ((c100).1 < ((x4 : Nat) : Int))) (
      optAll ((b4)[(0 + (Int.toNat (c100).1))]?) fun (r101 : List DV) =>
      needs (1 ≤ (r101).length) (
      cond (decide ((x5 < (((b252_4).length : Nat) : Int)))) (
        needs ((0 : Int) ≤ x5) (
        optAll ((b252_4)[(Int.toNat x5)]?) fun (r102 : List DV) =>
        optAll ((dInt IntKind.i64 r102 0)) fun (z103 : Int) =>
        optAll ((dInt IntKind.i64 r102 1)) fun (z104 : Int) =>
        optAll ((dLst 8 r102 2)) fun (l105 : List (List DV)) =>
        optAll (ref23_Object.R x5 (10 : Int)) fun (c106 : (Int × Unit)) =>
        needs (((0 : Int) ≤ (c106).1) ∧ ((c106).1 < ((x4 : Nat) : Int))) (
        optAll ((((b4).set ((0 + (Int.toNat (c100).1))) (putD r101 0 [(DV.v (Value.int IntKind.i64 b1048768_7))])))[(0 + (Int.toNat (c106).1))]?) fun (r107 : List DV) =>
        needs (1 ≤ (r107).length) (
        optAll (ref23_Object.R x5 (11 : Int)) fun (c108 : (Int × Unit)) =>
        needs (((0 : Int) ≤ (c108).1) ∧ ((c108).1 < ((x4 : Nat) : Int))) (
        optAll ((((((b4).set ((0 + (Int.toNat (c100).1))) (putD r101 0 [(DV.v (Value.int IntKind.i64 b1048768_7))]))).set ((0 + (Int.toNat (c106).1))) (putD r107 0 [(DV.v (Value.int IntKind.i64 z103))])))[(0 + (Int.toNat (c108).1))]?) fun (r109 : List DV) =>
        needs (1 ≤ (r109).length) (
        cond (decide (((0 : Int) < (((l105).length : Nat) : Int)))) (
          optAll ((l105)[0]?) fun (r110 : List DV) =>
          optAll ((dInt IntKind.i64 r110 0)) fun (z111 : Int) =>
          optAll ((dInt IntKind.i64 r110 1)) fun (z112 : Int) =>
          optAll ((dInt IntKind.i64 r110 2)) fun (z113 : Int) =>
          optAll ((dBool r110 3)) fun (z114 : Bool) =>
          optAll ((dInt IntKind.i64 r110 4)) fun (z115 : Int) =>
          optAll ((dInt IntKind.i64 r110 5)) fun (z116 : Int) =>
          optAll ((dInt IntKind.i64 r110 6)) fun (z117 : Int) =>
          optAll ((dBool r110 7)) fun (z118 : Bool) =>
          cond (decide ((z111 < (0 : Int)))) (
            False) (
            cond (decide ((z111 ≥ (31 : Int)))) (
              False) (
              optAll (ref23_Object.R x5 (12 : Int)) fun (c119 : (Int × Unit)) =>
              needs (((0 : Int) ≤ (c119).1) ∧ ((c119).1 < ((x4 : Nat) : Int))) (
              optAll ((((((((b4).set ((0 + (Int.toNat (c100).1))) (putD r101 0 [(DV.v (Value.int IntKind.i64 b1048768_7))]))).set ((0 + (Int.toNat (c106).1))) (putD r107 0 [(DV.v (Value.int IntKind.i64 z103))]))).set ((0 + (Int.toNat (c108).1))) (putD r109 0 [(DV.v (Value.int IntKind.i64 z104))])))[(0 + (Int.toNat (c119).1))]?) fun (r120 : List DV) =>
              needs (1 ≤ (r120).length) (
              optAll (ref23_Core.R z111 (1 : Int)) fun (c121 : (Int × Unit)) =>
              needs (((0 : Int) ≤ (c121).1) ∧ ((c121).1 < ((x4 : Nat) : Int))) (
              optAll ((((((((((b4).set ((0 + (Int.toNat (c100).1))) (putD r101 0 [(DV.v (Value.int IntKind.i64 b1048768_7))]))).set ((0 + (Int.toNat (c106).1))) (putD r107 0 [(DV.v (Value.int IntKind.i64 z103))]))).set ((0 + (Int.toNat (c108).1))) (putD r109 0 [(DV.v (Value.int IntKind.i64 z104))]))).set ((0 + (Int.toNat (c119).1))) (putD r120 0 [(DV.v (Value.int IntKind.i64 (IntKind.i64.wrap (z111 + (1 : Int)))))])))[(0 + (Int.toNat (c121).1))]?) fun (r122 : List DV) =>
              needs (1 ≤ (r122).length) (
              optAll (ref23_Core.R z111 (6 : Int)) fun (c123 : (Int × Unit)) =>
              needs (((0 : Int) ≤ (c123).1) ∧ ((c123).1 < ((x4 : Nat) : Int))) (
              optAll ((((((((((((b4).set ((0 + (Int.toNat (c100).1))) (putD r101 0 [(DV.v (Value.int IntKind.i64 b1048768_7))]))).set ((0 + (Int.toNat (c106).1))) (putD r107 0 [(DV.v (Value.int IntKind.i64 z103))]))).set ((0 + (Int.toNat (c108).1))) (putD r109 0 [(DV.v (Value.int IntKind.i64 z104))]))).set ((0 + (Int.toNat (c119).1))) (putD r120 0 [(DV.v (Value.int IntKind.i64 (IntKind.i64.wrap (z111 + (1 : Int)))))]))).set ((0 + (Int.toNat (c121).1))) (putD r122 0 [(DV.v (Value.int IntKind.i64 (0 : Int)))])))[(0 + (Int.toNat (c123).1))]?) fun (r124 : List DV) =>
              needs (1 ≤ (r124).length) (
              cond (decide (((1 : Int) < (((l105).length : Nat) : Int)))) (
                optAll (ref23_Core.R z111 (1 : Int)) fun (c125 : (Int × Unit)) =>
                optAll ((l105)[1]?) fun (r126 : List DV) =>
                optAll ((dInt IntKind.i64 r126 0)) fun (z127 : Int) =>
                needs (((0 : Int) ≤ (c125).1) ∧ ((c125).1 < ((x4 : Nat) : Int))) (
                optAll ((((((((((((((b4).set ((0 + (Int.toNat (c100).1))) (putD r101 0 [(DV.v (Value.int IntKind.i64 b1048768_7))]))).set ((0 + (Int.toNat (c106).1))) (putD r107 0 [(DV.v (Value.int IntKind.i64 z103))]))).set ((0 + (Int.toNat (c108).1))) (putD r109 0 [(DV.v (Value.int IntKind.i64 z104))]))).set ((0 + (Int.toNat (c119).1))) (putD r120 0 [(DV.v (Value.int IntKind.i64 (IntKind.i64.wrap (z111 + (1 : Int)))))]))).set ((0 + (Int.toNat (c121).1))) (putD r122 0 [(DV.v (Value.int IntKind.i64 (0 : Int)))]))).set ((0 + (Int.toNat (c123).1))) (putD r124 0 [(DV.v (Value.int IntKind.i64 (0 : Int)))])))[(0 + (Int.toNat (c125).1))]?) fun (r128 : List DV) =>
                needs (1 ≤ (r128).length) (
                optAll (ref23_Core.R z111 (2 : Int)) fun (c129 : (Int × Unit)) =>
                needs (((0 : Int) ≤ (c129).1) ∧ ((c129).1 < ((x4 : Nat) : Int))) (
                optAll ((((((((((((((((b4).set ((0 + (Int.toNat (c100).1))) (putD r101 0 [(DV.v (Value.int IntKind.i64 b1048768_7))]))).set ((0 + (Int.toNat (c106).1))) (putD r107 0 [(DV.v (Value.int IntKind.i64 z103))]))).set ((0 + (Int.toNat (c108).1))) (putD r109 0 [(DV.v (Value.int IntKind.i64 z104))]))).set ((0 + (Int.toNat (c119).1))) (putD r120 0 [(DV.v (Value.int IntKind.i64 (IntKind.i64.wrap (z111 + (1 : Int)))))]))).set ((0 + (Int.toNat (c121).1))) (putD r122 0 [(DV.v (Value.int IntKind.i64 (0 : Int)))]))).set ((0 + (Int.toNat (c123).1))) (putD r124 0 [(DV.v (Value.int IntKind.i64 (0 : Int)))]))).set ((0 + (Int.toNat (c125).1))) (putD r128 0 [(DV.v (Value.int IntKind.i64 (IntKind.i64.wrap (z127 + (1 : Int)))))])))[(0 + (Int.toNat (c129).1))]?) fun (r130 : List DV) =>
                needs (1 ≤ (r130).length) (
                optAll (ref23_Core.R z111 (3 : Int)) fun (c131 : (Int × Unit)) =>
                needs (((0 : Int) ≤ (c131).1) ∧ ((c131).1 < ((x4 : Nat) : Int))) (
                optAll ((((((((((((((((((b4).set ((0 + (Int.toNat (c100).1))) (putD r101 0 [(DV.v (Value.int IntKind.i64 b1048768_7))]))).set ((0 + (Int.toNat (c106).1))) (putD r107 0 [(DV.v (Value.int IntKind.i64 z103))]))).set ((0 + (Int.toNat (c108).1))) (putD r109 0 [(DV.v (Value.int IntKind.i64 z104))]))).set ((0 + (Int.toNat (c119).1))) (putD r120 0 [(DV.v (Value.int IntKind.i64 (IntKind.i64.wrap (z111 + (1 : Int)))))]))).set ((0 + (Int.toNat (c121).1))) (putD r122 0 [(DV.v (Value.int IntKind.i64 (0 : Int)))]))).set ((0 + (Int.toNat (c123).1))) (putD r124 0 [(DV.v (Value.int IntKind.i64 (0 : Int)))]))).set ((0 + (Int.toNat (c125).1))) (putD r128 0 [(DV.v (Value.int IntKind.i64 (IntKind.i64.wrap (z127 + (1 : Int)))))]))).set ((0 + (Int.toNat (c129).1))) (putD r130 0 [(DV.v (Value.int IntKind.i64 (1 : Int)))])))[(0 + (Int.toNat (c131).1))]?) fun (r132 : List DV) =>
                needs (1 ≤ (r132).length) (
                optAll (ref23_Core.R z111 (4 : Int)) fun (c133 : (Int × Unit)) =>
                needs (((0 : Int) ≤ (c133).1) ∧ ((c133).1 < ((x4 : Nat) : Int))) (
                optAll ((((((((((((((((((((b4).set ((0 + (Int.toNat (c100).1))) (putD r101 0 [(DV.v (Value.int IntKind.i64 b1048768_7))]))).set ((0 + (Int.toNat (c106).1))) (putD r107 0 [(DV.v (Value.int IntKind.i64 z103))]))).set ((0 + (Int.toNat (c108).1))) (putD r109 0 [(DV.v (Value.int IntKind.i64 z104))]))).set ((0 + (Int.toNat (c119).1))) (putD r120 0 [(DV.v (Value.int IntKind.i64 (IntKind.i64.wrap (z111 + (1 : Int)))))]))).set ((0 + (Int.toNat (c121).1))) (putD r122 0 [(DV.v (Value.int IntKind.i64 (0 : Int)))]))).set ((0 + (Int.toNat (c123).1))) (putD r124 0 [(DV.v (Value.int IntKind.i64 (0 : Int)))]))).set ((0 + (Int.toNat (c125).1))) (putD r128 0 [(DV.v (Value.int IntKind.i64 (IntKind.i64.wrap (z127 + (1 : Int)))))]))).set ((0 + (Int.toNat (c129).1))) (putD r130 0 [(DV.v (Value.int IntKind.i64 (1 : Int)))]))).set ((0 + (Int.toNat (c131).1))) (putD r132 0 [(DV.v (Value.int IntKind.i64 z112))])))[(0 + (Int.toNat (c133).1))]?) fun (r134 : List DV) =>
                needs (1 ≤ (r134).length) (
                optAll (ref23_Core.R z111 (5 : Int)) fun (c135 : (Int × Unit)) =>
                optAll (ref23_bit.R z114) fun (c136 : (Int × Unit)) =>
                needs (((0 : Int) ≤ (c135).1) ∧ ((c135).1 < ((x4 : Nat) : Int))) (
                optAll ((((((((((((((((((((((b4).set ((0 + (Int.toNat (c100).1))) (putD r101 0 [(DV.v (Value.int IntKind.i64 b1048768_7))]))).set ((0 + (Int.toNat (c106).1))) (putD r107 0 [(DV.v (Value.int IntKind.i64 z103))]))).set ((0 + (Int.toNat (c108).1))) (putD r109 0 [(DV.v (Value.int IntKind.i64 z104))]))).set ((0 + (Int.toNat (c119).1))) (putD r120 0 [(DV.v (Value.int IntKind.i64 (IntKind.i64.wrap (z111 + (1 : Int)))))]))).set ((0 + (Int.toNat (c121).1))) (putD r122 0 [(DV.v (Value.int IntKind.i64 (0 : Int)))]))).set ((0 + (Int.toNat (c123).1))) (putD r124 0 [(DV.v (Value.int IntKind.i64 (0 : Int)))]))).set ((0 + (Int.toNat (c125).1))) (putD r128 0 [(DV.v (Value.int IntKind.i64 (IntKind.i64.wrap (z127 + (1 : Int)))))]))).set ((0 + (Int.toNat (c129).1))) (putD r130 0 [(DV.v (Value.int IntKind.i64 (1 : Int)))]))).set ((0 + (Int.toNat (c131).1))) (putD r132 0 [(DV.v (Value.int IntKind.i64 z112))]))).set ((0 + (Int.toNat (c133).1))) (putD r134 0 [(DV.v (Value.int IntKind.i64 z113))])))[(0 + (Int.toNat (c135).1))]?) fun (r137 : List DV) =>
                needs (1 ≤ (r137).length) (
                cond (z114) (
                  optAll (ref23_Core.R z111 (6 : Int)) fun (c138 : (Int × Unit)) =>
                  optAll (ref23_Code.R z115 z116) fun (c139 : (Int × Unit)) =>
                  needs (((0 : Int) ≤ (c138).1) ∧ ((c138).1 < ((x4 : Nat) : Int))) (
                  optAll ((((((((((((((((((((((((b4).set ((0 + (Int.toNat (c100).1))) (putD r101 0 [(DV.v (Value.int IntKind.i64 b1048768_7))]))).set ((0 + (Int.toNat (c106).1))) (putD r107 0 [(DV.v (Value.int IntKind.i64 z103))]))).set ((0 + (Int.toNat (c108).1))) (putD r109 0 [(DV.v (Value.int IntKind.i64 z104))]))).set ((0 + (Int.toNat (c119).1))) (putD r120 0 [(DV.v (Value.int IntKind.i64 (IntKind.i64.wrap (z111 + (1 : Int)))))]))).set ((0 + (Int.toNat (c121).1))) (putD r122 0 [(DV.v (Value.int IntKind.i64 (0 : Int)))]))).set ((0 + (Int.toNat (c123).1))) (putD r124 0 [(DV.v (Value.int IntKind.i64 (0 : Int)))]))).set ((0 + (Int.toNat (c125).1))) (putD r128 0 [(DV.v (Value.int IntKind.i64 (IntKind.i64.wrap (z127 + (1 : Int)))))]))).set ((0 + (Int.toNat (c129).1))) (putD r130 0 [(DV.v (Value.int IntKind.i64 (1 : Int)))]))).set ((0 + (Int.toNat (c131).1))) (putD r132 0 [(DV.v (Value.int IntKind.i64 z112))]))).set ((0 + (Int.toNat (c133).1))) (putD r134 0 [(DV.v (Value.int IntKind.i64 z113))]))).set ((0 + (Int.toNat (c135).1))) (putD r137 0 [(DV.v (Value.int IntKind.i64 (c136).1))])))[(0 + (Int.toNat (c138).1))]?) fun (r140 : List DV) =>
                  needs (1 ≤ (r140).length) (
                  optAll (ref23_Core.R z111 (7 : Int)) fun (c141 : (Int × Unit)) =>
                  needs (((0 : Int) ≤ (c141).1) ∧ ((c141).1 < ((x4 : Nat) : Int))) (
                  optAll ((((((((((((((((((((((((((b4).set ((0 + (Int.toNat (c100).1))) (putD r101 0 [(DV.v (Value.int IntKind.i64 b1048768_7))]))).set ((0 + (Int.toNat (c106).1))) (putD r107 0 [(DV.v (Value.int IntKind.i64 z103))]))).set ((0 + (Int.toNat (c108).1))) (putD r109 0 [(DV.v (Value.int IntKind.i64 z104))]))).set ((0 + (Int.toNat (c119).1))) (putD r120 0 [(DV.v (Value.int IntKind.i64 (IntKind.i64.wrap (z111 + (1 : Int)))))]))).set ((0 + (Int.toNat (c121).1))) (putD r122 0 [(DV.v (Value.int IntKind.i64 (0 : Int)))]))).set ((0 + (Int.toNat (c123).1))) (putD r124 0 [(DV.v (Value.int IntKind.i64 (0 : Int)))]))).set ((0 + (Int.toNat (c125).1))) (putD r128 0 [(DV.v (Value.int IntKind.i64 (IntKind.i64.wrap (z127 + (1 : Int)))))]))).set ((0 + (Int.toNat (c129).1))) (putD r130 0 [(DV.v (Value.int IntKind.i64 (1 : Int)))]))).set ((0 + (Int.toNat (c131).1))) (putD r132 0 [(DV.v (Value.int IntKind.i64 z112))]))).set ((0 + (Int.toNat (c133).1))) (putD r134 0 [(DV.v (Value.int IntKind.i64 z113))]))).set ((0 + (Int.toNat (c135).1))) (putD r137 0 [(DV.v (Value.int IntKind.i64 (c136).1))]))).set ((0 + (Int.toNat (c138).1))) (putD r140 0 [(DV.v (Value.int IntKind.i64 (c139).1))])))[(0 + (Int.toNat (c141).1))]?) fun (r142 : List DV) =>
                  needs (1 ≤ (r142).length) (
                  optAll (ref23_Core.R z111 (8 : Int)) fun (c143 : (Int × Unit)) =>
                  optAll (ref23_bit.R z118) fun (c144 : (Int × Unit)) =>
                  needs (((0 : Int) ≤ (c143).1) ∧ ((c143).1 < ((x4 : Nat) : Int))) (
                  optAll ((((((((((((((((((((((((((((b4).set ((0 + (Int.toNat (c100).1))) (putD r101 0 [(DV.v (Value.int IntKind.i64 b1048768_7))]))).set ((0 + (Int.toNat (c106).1))) (putD r107 0 [(DV.v (Value.int IntKind.i64 z103))]))).set ((0 + (Int.toNat (c108).1))) (putD r109 0 [(DV.v (Value.int IntKind.i64 z104))]))).set ((0 + (Int.toNat (c119).1))) (putD r120 0 [(DV.v (Value.int IntKind.i64 (IntKind.i64.wrap (z111 + (1 : Int)))))]))).set ((0 + (Int.toNat (c121).1))) (putD r122 0 [(DV.v (Value.int IntKind.i64 (0 : Int)))]))).set ((0 + (Int.toNat (c123).1))) (putD r124 0 [(DV.v (Value.int IntKind.i64 (0 : Int)))]))).set ((0 + (Int.toNat (c125).1))) (putD r128 0 [(DV.v (Value.int IntKind.i64 (IntKind.i64.wrap (z127 + (1 : Int)))))]))).set ((0 + (Int.toNat (c129).1))) (putD r130 0 [(DV.v (Value.int IntKind.i64 (1 : Int)))]))).set ((0 + (Int.toNat (c131).1))) (putD r132 0 [(DV.v (Value.int IntKind.i64 z112))]))).set ((0 + (Int.toNat (c133).1))) (putD r134 0 [(DV.v (Value.int IntKind.i64 z113))]))).set ((0 + (Int.toNat (c135).1))) (putD r137 0 [(DV.v (Value.int IntKind.i64 (c136).1))]))).set ((0 + (Int.toNat (c138).1))) (putD r140 0 [(DV.v (Value.int IntKind.i64 (c139).1))]))).set ((0 + (Int.toNat (c141).1))) (putD r142 0 [(DV.v (Value.int IntKind.i64 z117))])))[(0 + (Int.toNat (c143).1))]?) fun (r145 : List DV) =>
                  needs (1 ≤ (r145).length) (
                  False))))))) (
                  optAll (ref23_Core.R z111 (7 : Int)) fun (c146 : (Int × Unit)) =>
                  needs (((0 : Int) ≤ (c146).1) ∧ ((c146).1 < ((x4 : Nat) : Int))) (
                  optAll ((((((((((((((((((((((((b4).set ((0 + (Int.toNat (c100).1))) (putD r101 0 [(DV.v (Value.int IntKind.i64 b1048768_7))]))).set ((0 + (Int.toNat (c106).1))) (putD r107 0 [(DV.v (Value.int IntKind.i64 z103))]))).set ((0 + (Int.toNat (c108).1))) (putD r109 0 [(DV.v (Value.int IntKind.i64 z104))]))).set ((0 + (Int.toNat (c119).1))) (putD r120 0 [(DV.v (Value.int IntKind.i64 (IntKind.i64.wrap (z111 + (1 : Int)))))]))).set ((0 + (Int.toNat (c121).1))) (putD r122 0 [(DV.v (Value.int IntKind.i64 (0 : Int)))]))).set ((0 + (Int.toNat (c123).1))) (putD r124 0 [(DV.v (Value.int IntKind.i64 (0 : Int)))]))).set ((0 + (Int.toNat (c125).1))) (putD r128 0 [(DV.v (Value.int IntKind.i64 (IntKind.i64.wrap (z127 + (1 : Int)))))]))).set ((0 + (Int.toNat (c129).1))) (putD r130 0 [(DV.v (Value.int IntKind.i64 (1 : Int)))]))).set ((0 + (Int.toNat (c131).1))) (putD r132 0 [(DV.v (Value.int IntKind.i64 z112))]))).set ((0 + (Int.toNat (c133).1))) (putD r134 0 [(DV.v (Value.int IntKind.i64 z113))]))).set ((0 + (Int.toNat (c135).1))) (putD r137 0 [(DV.v (Value.int IntKind.i64 (c136).1))])))[(0 + (Int.toNat (c146).1))]?) fun (r147 : List DV) =>
                  needs (1 ≤ (r147).length) (
                  optAll (ref23_Core.R z111 (8 : Int)) fun (c148 : (Int × Unit)) =>
                  optAll (ref23_bit.R z118) fun (c149 : (Int × Unit)) =>
                  needs (((0 : Int) ≤ (c148).1) ∧ ((c148).1 < ((x4 : Nat) : Int))) (
                  optAll ((((((((((((((((((((((((((b4).set ((0 + (Int.toNat (c100).1))) (putD r101 0 [(DV.v (Value.int IntKind.i64 b1048768_7))]))).set ((0 + (Int.toNat (c106).1))) (putD r107 0 [(DV.v (Value.int IntKind.i64 z103))]))).set ((0 + (Int.toNat (c108).1))) (putD r109 0 [(DV.v (Value.int IntKind.i64 z104))]))).set ((0 + (Int.toNat (c119).1))) (putD r120 0 [(DV.v (Value.int IntKind.i64 (IntKind.i64.wrap (z111 + (1 : Int)))))]))).set ((0 + (Int.toNat (c121).1))) (putD r122 0 [(DV.v (Value.int IntKind.i64 (0 : Int)))]))).set ((0 + (Int.toNat (c123).1))) (putD r124 0 [(DV.v (Value.int IntKind.i64 (0 : Int)))]))).set ((0 + (Int.toNat (c125).1))) (putD r128 0 [(DV.v (Value.int IntKind.i64 (IntKind.i64.wrap (z127 + (1 : Int)))))]))).set ((0 + (Int.toNat (c129).1))) (putD r130 0 [(DV.v (Value.int IntKind.i64 (1 : Int)))]))).set ((0 + (Int.toNat (c131).1))) (putD r132 0 [(DV.v (Value.int IntKind.i64 z112))]))).set ((0 + (Int.toNat (c133).1))) (putD r134 0 [(DV.v (Value.int IntKind.i64 z113))]))).set ((0 + (Int.toNat (c135).1))) (putD r137 0 [(DV.v (Value.int IntKind.i64 (c136).1))]))).set ((0 + (Int.toNat (c146).1))) (putD r147 0 [(DV.v (Value.int IntKind.i64 z117))])))[(0 + (Int.toNat (c148).1))]?) fun (r150 : List DV) =>
                  needs (1 ≤ (r150).length) (
                  False)))))))))))))))) (
                optAll (ref23_Object.R x5 (13 : Int)) fun (c151 : (Int × Unit)) =>
                needs (((0 : Int) ≤ (c151).1) ∧ ((c151).1 < ((x4 : Nat) : Int))) (
                optAll ((((((((((((((b4).set ((0 + (Int.toNat (c100).1))) (putD r101 0 [(DV.v (Value.int IntKind.i64 b1048768_7))]))).set ((0 + (Int.toNat (c106).1))) (putD r107 0 [(DV.v (Value.int IntKind.i64 z103))]))).set ((0 + (Int.toNat (c108).1))) (putD r109 0 [(DV.v (Value.int IntKind.i64 z104))]))).set ((0 + (Int.toNat (c119).1))) (putD r120 0 [(DV.v (Value.int IntKind.i64 (IntKind.i64.wrap (z111 + (1 : Int)))))]))).set ((0 + (Int.toNat (c121).1))) (putD r122 0 [(DV.v (Value.int IntKind.i64 (0 : Int)))]))).set ((0 + (Int.toNat (c123).1))) (putD r124 0 [(DV.v (Value.int IntKind.i64 (0 : Int)))])))[(0 + (Int.toNat (c151).1))]?) fun (r152 : List DV) =>
                needs (1 ≤ (r152).length) (
                optAll (ref23_Core.R z111 (2 : Int)) fun (c153 : (Int × Unit)) =>
                needs (((0 : Int) ≤ (c153).1) ∧ ((c153).1 < ((x4 : Nat) : Int))) (
                optAll ((((((((((((((((b4).set ((0 + (Int.toNat (c100).1))) (putD r101 0 [(DV.v (Value.int IntKind.i64 b1048768_7))]))).set ((0 + (Int.toNat (c106).1))) (putD r107 0 [(DV.v (Value.int IntKind.i64 z103))]))).set ((0 + (Int.toNat (c108).1))) (putD r109 0 [(DV.v (Value.int IntKind.i64 z104))]))).set ((0 + (Int.toNat (c119).1))) (putD r120 0 [(DV.v (Value.int IntKind.i64 (IntKind.i64.wrap (z111 + (1 : Int)))))]))).set ((0 + (Int.toNat (c121).1))) (putD r122 0 [(DV.v (Value.int IntKind.i64 (0 : Int)))]))).set ((0 + (Int.toNat (c123).1))) (putD r124 0 [(DV.v (Value.int IntKind.i64 (0 : Int)))]))).set ((0 + (Int.toNat (c151).1))) (putD r152 0 [(DV.v (Value.int IntKind.i64 (IntKind.i64.wrap (z111 + (1 : Int)))))])))[(0 + (Int.toNat (c153).1))]?) fun (r154 : List DV) =>
                needs (1 ≤ (r154).length) (
                optAll (ref23_Core.R z111 (3 : Int)) fun (c155 : (Int × Unit)) =>
                needs (((0 : Int) ≤ (c155).1) ∧ ((c155).1 < ((x4 : Nat) : Int))) (
                optAll ((((((((((((((((((b4).set ((0 + (Int.toNat (c100).1))) (putD r101 0 [(DV.v (Value.int IntKind.i64 b1048768_7))]))).set ((0 + (Int.toNat (c106).1))) (putD r107 0 [(DV.v (Value.int IntKind.i64 z103))]))).set ((0 + (Int.toNat (c108).1))) (putD r109 0 [(DV.v (Value.int IntKind.i64 z104))]))).set ((0 + (Int.toNat (c119).1))) (putD r120 0 [(DV.v (Value.int IntKind.i64 (IntKind.i64.wrap (z111 + (1 : Int)))))]))).set ((0 + (Int.toNat (c121).1))) (putD r122 0 [(DV.v (Value.int IntKind.i64 (0 : Int)))]))).set ((0 + (Int.toNat (c123).1))) (putD r124 0 [(DV.v (Value.int IntKind.i64 (0 : Int)))]))).set ((0 + (Int.toNat (c151).1))) (putD r152 0 [(DV.v (Value.int IntKind.i64 (IntKind.i64.wrap (z111 + (1 : Int)))))]))).set ((0 + (Int.toNat (c153).1))) (putD r154 0 [(DV.v (Value.int IntKind.i64 (1 : Int)))])))[(0 + (Int.toNat (c155).1))]?) fun (r156 : List DV) =>
                needs (1 ≤ (r156).length) (
                optAll (ref23_Core.R z111 (4 : Int)) fun (c157 : (Int × Unit)) =>
                needs (((0 : Int) ≤ (c157).1) ∧ ((c157).1 < ((x4 : Nat) : Int))) (
                optAll ((((((((((((((((((((b4).set ((0 + (Int.toNat (c100).1))) (putD r101 0 [(DV.v (Value.int IntKind.i64 b1048768_7))]))).set ((0 + (Int.toNat (c106).1))) (putD r107 0 [(DV.v (Value.int IntKind.i64 z103))]))).set ((0 + (Int.toNat (c108).1))) (putD r109 0 [(DV.v (Value.int IntKind.i64 z104))]))).set ((0 + (Int.toNat (c119).1))) (putD r120 0 [(DV.v (Value.int IntKind.i64 (IntKind.i64.wrap (z111 + (1 : Int)))))]))).set ((0 + (Int.toNat (c121).1))) (putD r122 0 [(DV.v (Value.int IntKind.i64 (0 : Int)))]))).set ((0 + (Int.toNat (c123).1))) (putD r124 0 [(DV.v (Value.int IntKind.i64 (0 : Int)))]))).set ((0 + (Int.toNat (c151).1))) (putD r152 0 [(DV.v (Value.int IntKind.i64 (IntKind.i64.wrap (z111 + (1 : Int)))))]))).set ((0 + (Int.toNat (c153).1))) (putD r154 0 [(DV.v (Value.int IntKind.i64 (1 : Int)))]))).set ((0 + (Int.toNat (c155).1))) (putD r156 0 [(DV.v (Value.int IntKind.i64 z112))])))[(0 + (Int.toNat (c157).1))]?) fun (r158 : List DV) =>
                needs (1 ≤ (r158).length) (
                optAll (ref23_Core.R z111 (5 : Int)) fun (c159 : (Int × Unit)) =>
                optAll (ref23_bit.R z114) fun (c160 : (Int × Unit)) =>
                needs (((0 : Int) ≤ (c159).1) ∧ ((c159).1 < ((x4 : Nat) : Int))) (
                optAll ((((((((((((((((((((((b4).set ((0 + (Int.toNat (c100).1))) (putD r101 0 [(DV.v (Value.int IntKind.i64 b1048768_7))]))).set ((0 + (Int.toNat (c106).1))) (putD r107 0 [(DV.v (Value.int IntKind.i64 z103))]))).set ((0 + (Int.toNat (c108).1))) (putD r109 0 [(DV.v (Value.int IntKind.i64 z104))]))).set ((0 + (Int.toNat (c119).1))) (putD r120 0 [(DV.v (Value.int IntKind.i64 (IntKind.i64.wrap (z111 + (1 : Int)))))]))).set ((0 + (Int.toNat (c121).1))) (putD r122 0 [(DV.v (Value.int IntKind.i64 (0 : Int)))]))).set ((0 + (Int.toNat (c123).1))) (putD r124 0 [(DV.v (Value.int IntKind.i64 (0 : Int)))]))).set ((0 + (Int.toNat (c151).1))) (putD r152 0 [(DV.v (Value.int IntKind.i64 (IntKind.i64.wrap (z111 + (1 : Int)))))]))).set ((0 + (Int.toNat (c153).1))) (putD r154 0 [(DV.v (Value.int IntKind.i64 (1 : Int)))]))).set ((0 + (Int.toNat (c155).1))) (putD r156 0 [(DV.v (Value.int IntKind.i64 z112))]))).set ((0 + (Int.toNat (c157).1))) (putD r158 0 [(DV.v (Value.int IntKind.i64 z113))])))[(0 + (Int.toNat (c159).1))]?) fun (r161 : List DV) =>
                needs (1 ≤ (r161).length) (
                cond (z114) (
                  optAll (ref23_Core.R z111 (6 : Int)) fun (c162 : (Int × Unit)) =>
                  optAll (ref23_Code.R z115 z116) fun (c163 : (Int × Unit)) =>
                  needs (((0 : Int) ≤ (c162).1) ∧ ((c162).1 < ((x4 : Nat) : Int))) (
                  optAll ((((((((((((((((((((((((b4).set ((0 + (Int.toNat (c100).1))) (putD r101 0 [(DV.v (Value.int IntKind.i64 b1048768_7))]))).set ((0 + (Int.toNat (c106).1))) (putD r107 0 [(DV.v (Value.int IntKind.i64 z103))]))).set ((0 + (Int.toNat (c108).1))) (putD r109 0 [(DV.v (Value.int IntKind.i64 z104))]))).set ((0 + (Int.toNat (c119).1))) (putD r120 0 [(DV.v (Value.int IntKind.i64 (IntKind.i64.wrap (z111 + (1 : Int)))))]))).set ((0 + (Int.toNat (c121).1))) (putD r122 0 [(DV.v (Value.int IntKind.i64 (0 : Int)))]))).set ((0 + (Int.toNat (c123).1))) (putD r124 0 [(DV.v (Value.int IntKind.i64 (0 : Int)))]))).set ((0 + (Int.toNat (c151).1))) (putD r152 0 [(DV.v (Value.int IntKind.i64 (IntKind.i64.wrap (z111 + (1 : Int)))))]))).set ((0 + (Int.toNat (c153).1))) (putD r154 0 [(DV.v (Value.int IntKind.i64 (1 : Int)))]))).set ((0 + (Int.toNat (c155).1))) (putD r156 0 [(DV.v (Value.int IntKind.i64 z112))]))).set ((0 + (Int.toNat (c157).1))) (putD r158 0 [(DV.v (Value.int IntKind.i64 z113))]))).set ((0 + (Int.toNat (c159).1))) (putD r161 0 [(DV.v (Value.int IntKind.i64 (c160).1))])))[(0 + (Int.toNat (c162).1))]?) fun (r164 : List DV) =>
                  needs (1 ≤ (r164).length) (
                  optAll (ref23_Core.R z111 (7 : Int)) fun (c165 : (Int × Unit)) =>
                  needs (((0 : Int) ≤ (c165).1) ∧ ((c165).1 < ((x4 : Nat) : Int))) (
                  optAll ((((((((((((((((((((((((((b4).set ((0 + (Int.toNat (c100).1))) (putD r101 0 [(DV.v (Value.int IntKind.i64 b1048768_7))]))).set ((0 + (Int.toNat (c106).1))) (putD r107 0 [(DV.v (Value.int IntKind.i64 z103))]))).set ((0 + (Int.toNat (c108).1))) (putD r109 0 [(DV.v (Value.int IntKind.i64 z104))]))).set ((0 + (Int.toNat (c119).1))) (putD r120 0 [(DV.v (Value.int IntKind.i64 (IntKind.i64.wrap (z111 + (1 : Int)))))]))).set ((0 + (Int.toNat (c121).1))) (putD r122 0 [(DV.v (Value.int IntKind.i64 (0 : Int)))]))).set ((0 + (Int.toNat (c123).1))) (putD r124 0 [(DV.v (Value.int IntKind.i64 (0 : Int)))]))).set ((0 + (Int.toNat (c151).1))) (putD r152 0 [(DV.v (Value.int IntKind.i64 (IntKind.i64.wrap (z111 + (1 : Int)))))]))).set ((0 + (Int.toNat (c153).1))) (putD r154 0 [(DV.v (Value.int IntKind.i64 (1 : Int)))]))).set ((0 + (Int.toNat (c155).1))) (putD r156 0 [(DV.v (Value.int IntKind.i64 z112))]))).set ((0 + (Int.toNat (c157).1))) (putD r158 0 [(DV.v (Value.int IntKind.i64 z113))]))).set ((0 + (Int.toNat (c159).1))) (putD r161 0 [(DV.v (Value.int IntKind.i64 (c160).1))]))).set ((0 + (Int.toNat (c162).1))) (putD r164 0 [(DV.v (Value.int IntKind.i64 (c163).1))])))[(0 + (Int.toNat (c165).1))]?) fun (r166 : List DV) =>
                  needs (1 ≤ (r166).length) (
                  optAll (ref23_Core.R z111 (8 : Int)) fun (c167 : (Int × Unit)) =>
                  optAll (ref23_bit.R z118) fun (c168 : (Int × Unit)) =>
                  needs (((0 : Int) ≤ (c167).1) ∧ ((c167).1 < ((x4 : Nat) : Int))) (
                  optAll ((((((((((((((((((((((((((((b4).set ((0 + (Int.toNat (c100).1))) (putD r101 0 [(DV.v (Value.int IntKind.i64 b1048768_7))]))).set ((0 + (Int.toNat (c106).1))) (putD r107 0 [(DV.v (Value.int IntKind.i64 z103))]))).set ((0 + (Int.toNat (c108).1))) (putD r109 0 [(DV.v (Value.int IntKind.i64 z104))]))).set ((0 + (Int.toNat (c119).1))) (putD r120 0 [(DV.v (Value.int IntKind.i64 (IntKind.i64.wrap (z111 + (1 : Int)))))]))).set ((0 + (Int.toNat (c121).1))) (putD r122 0 [(DV.v (Value.int IntKind.i64 (0 : Int)))]))).set ((0 + (Int.toNat (c123).1))) (putD r124 0 [(DV.v (Value.int IntKind.i64 (0 : Int)))]))).set ((0 + (Int.toNat (c151).1))) (putD r152 0 [(DV.v (Value.int IntKind.i64 (IntKind.i64.wrap (z111 + (1 : Int)))))]))).set ((0 + (Int.toNat (c153).1))) (putD r154 0 [(DV.v (Value.int IntKind.i64 (1 : Int)))]))).set ((0 + (Int.toNat (c155).1))) (putD r156 0 [(DV.v (Value.int IntKind.i64 z112))]))).set ((0 + (Int.toNat (c157).1))) (putD r158 0 [(DV.v (Value.int IntKind.i64 z113))]))).set ((0 + (Int.toNat (c159).1))) (putD r161 0 [(DV.v (Value.int IntKind.i64 (c160).1))]))).set ((0 + (Int.toNat (c162).1))) (putD r164 0 [(DV.v (Value.int IntKind.i64 (c163).1))]))).set ((0 + (Int.toNat (c165).1))) (putD r166 0 [(DV.v (Value.int IntKind.i64 z117))])))[(0 + (Int.toNat (c167).1))]?) fun (r169 : List DV) =>
                  needs (1 ≤ (r169).length) (
                  False))))))) (
                  optAll (ref23_Core.R z111 (7 : Int)) fun (c170 : (Int × Unit)) =>
                  needs (((0 : Int) ≤ (c170).1) ∧ ((c170).1 < ((x4 : Nat) : Int))) (
                  optAll ((((((((((((((((((((((((b4).set ((0 + (Int.toNat (c100).1))) (putD r101 0 [(DV.v (Value.int IntKind.i64 b1048768_7))]))).set ((0 + (Int.toNat (c106).1))) (putD r107 0 [(DV.v (Value.int IntKind.i64 z103))]))).set ((0 + (Int.toNat (c108).1))) (putD r109 0 [(DV.v (Value.int IntKind.i64 z104))]))).set ((0 + (Int.toNat (c119).1))) (putD r120 0 [(DV.v (Value.int IntKind.i64 (IntKind.i64.wrap (z111 + (1 : Int)))))]))).set ((0 + (Int.toNat (c121).1))) (putD r122 0 [(DV.v (Value.int IntKind.i64 (0 : Int)))]))).set ((0 + (Int.toNat (c123).1))) (putD r124 0 [(DV.v (Value.int IntKind.i64 (0 : Int)))]))).set ((0 + (Int.toNat (c151).1))) (putD r152 0 [(DV.v (Value.int IntKind.i64 (IntKind.i64.wrap (z111 + (1 : Int)))))]))).set ((0 + (Int.toNat (c153).1))) (putD r154 0 [(DV.v (Value.int IntKind.i64 (1 : Int)))]))).set ((0 + (Int.toNat (c155).1))) (putD r156 0 [(DV.v (Value.int IntKind.i64 z112))]))).set ((0 + (Int.toNat (c157).1))) (putD r158 0 [(DV.v (Value.int IntKind.i64 z113))]))).set ((0 + (Int.toNat (c159).1))) (putD r161 0 [(DV.v (Value.int IntKind.i64 (c160).1))])))[(0 + (Int.toNat (c170).1))]?) fun (r171 : List DV) =>
                  needs (1 ≤ (r171).length) (
                  optAll (ref23_Core.R z111 (8 : Int)) fun (c172 : (Int × Unit)) =>
                  optAll (ref23_bit.R z118) fun (c173 : (Int × Unit)) =>
                  needs (((0 : Int) ≤ (c172).1) ∧ ((c172).1 < ((x4 : Nat) : Int))) (
                  optAll ((((((((((((((((((((((((((b4).set ((0 + (Int.toNat (c100).1))) (putD r101 0 [(DV.v (Value.int IntKind.i64 b1048768_7))]))).set ((0 + (Int.toNat (c106).1))) (putD r107 0 [(DV.v (Value.int IntKind.i64 z103))]))).set ((0 + (Int.toNat (c108).1))) (putD r109 0 [(DV.v (Value.int IntKind.i64 z104))]))).set ((0 + (Int.toNat (c119).1))) (putD r120 0 [(DV.v (Value.int IntKind.i64 (IntKind.i64.wrap (z111 + (1 : Int)))))]))).set ((0 + (Int.toNat (c121).1))) (putD r122 0 [(DV.v (Value.int IntKind.i64 (0 : Int)))]))).set ((0 + (Int.toNat (c123).1))) (putD r124 0 [(DV.v (Value.int IntKind.i64 (0 : Int)))]))).set ((0 + (Int.toNat (c151).1))) (putD r152 0 [(DV.v (Value.int IntKind.i64 (IntKind.i64.wrap (z111 + (1 : Int)))))]))).set ((0 + (Int.toNat (c153).1))) (putD r154 0 [(DV.v (Value.int IntKind.i64 (1 : Int)))]))).set ((0 + (Int.toNat (c155).1))) (putD r156 0 [(DV.v (Value.int IntKind.i64 z112))]))).set ((0 + (Int.toNat (c157).1))) (putD r158 0 [(DV.v (Value.int IntKind.i64 z113))]))).set ((0 + (Int.toNat (c159).1))) (putD r161 0 [(DV.v (Value.int IntKind.i64 (c160).1))]))).set ((0 + (Int.toNat (c170).1))) (putD r171 0 [(DV.v (Value.int IntKind.i64 z117))])))[(0 + (Int.toNat (c172).1))]?) fun (r174 : List DV) =>
                  needs (1 ≤ (r174).length) (
                  False))))))))))))))))))))))))) (
          H6_1048576 x4 (IntKind.i64.wrap (x5 + (1 : Int))) b252 b252_1 b252_2 b252_3 b252_4 b252_5 b252_6 b252_7 ((((((b4).set ((0 + (Int.toNat (c100).1))) (putD r101 0 [(DV.v (Value.int IntKind.i64 b1048768_7))]))).set ((0 + (Int.toNat (c106).1))) (putD r107 0 [(DV.v (Value.int IntKind.i64 z103))]))).set ((0 + (Int.toNat (c108).1))) (putD r109 0 [(DV.v (Value.int IntKind.i64 z104))])) b9 c))))))) (
        H6_1048576 x4 (IntKind.i64.wrap (x5 + (1 : Int))) b252 b252_1 b252_2 b252_3 b252_4 b252_5 b252_6 b252_7 ((b4).set ((0 + (Int.toNat (c100).1))) (putD r101 0 [(DV.v (Value.int IntKind.i64 b1048768_7))])) b9 c))))) : H17 x4 x5 x9 x10 b252 b252_1 b252_2 b252_3 b252_4 b252_5 b252_6 b252_7 b4 b1048768 b1048768_1 b1048768_2 b1048768_3 b1048768_4 b1048768_5 b1048768_6 b1048768_7 b9 c := head_rule (n := 400) (unSum_ok cfg 2 [55]) (by kernel_rfl) h
theorem H40_step (x4 : Nat) (x17 : Int) (b252 : List (List DV)) (b252_1 : List (List DV)) (b252_2 : List (List DV)) (b252_3 : List (List DV)) (b252_4 : List (List DV)) (b252_5 : List (List DV)) (b252_6 : List (List DV)) (b252_7 : List (List DV)) (b4 : List (List DV)) (c : (List (List DV) × (Int × Unit))) (h :
    cond (decide ((x17 < (((b252_7).length : Nat) : Int)))) (
      needs ((0 : Int) ≤ x17) (
      optAll ((b252_7)[(Int.toNat x17)]?) fun (r175 : List DV) =>
      optAll ((dBool r175 0)) fun (z176 : Bool) =>
      cond (z176) (
        optAll (ref23_Core.R x17 (13 : Int)) fun (c177 : (Int × Unit)) =>
        needs ((0 : Int) ≤ x17) (
        optAll ((b252_7)[(Int.toNat x17)]?) fun (r178 : List DV) =>
        optAll ((dInt IntKind.i64 r178 1)) fun (z179 : Int) =>
        optAll ((dInt IntKind.i64 r178 2)) fun (z180 : Int) =>
        optAll (ref23_Code.R z179 z180) fun (c181 : (Int × Unit)) =>
        needs (((0 : Int) ≤ (c177).1) ∧ ((c177).1 < ((x4 : Nat) : Int))) (
        optAll ((b4)[(0 + (Int.toNat (c177).1))]?) fun (r182 : List DV) =>
        needs (1 ≤ (r182).length) (
        optAll (ref23_Core.R x17 (14 : Int)) fun (c183 : (Int × Unit)) =>
        needs ((0 : Int) ≤ x17) (
        optAll ((b252_7)[(Int.toNat x17)]?) fun (r184 : List DV) =>
        optAll ((dBool r184 3)) fun (z185 : Bool) =>
        optAll (ref23_bit.R z185) fun (c186 : (Int × Unit)) =>
        needs (((0 : Int) ≤ (c183).1) ∧ ((c183).1 < ((x4 : Nat) : Int))) (
        optAll ((((b4).set ((0 + (Int.toNat (c177).1))) (putD r182 0 [(DV.v (Value.int IntKind.i64 (c181).1))])))[(0 + (Int.toNat (c183).1))]?) fun (r187 : List DV) =>
        needs (1 ≤ (r187).length) (
        H40 x4 (IntKind.i64.wrap (x17 + (1 : Int))) b252 b252_1 b252_2 b252_3 b252_4 b252_5 b252_6 b252_7 ((((b4).set ((0 + (Int.toNat (c177).1))) (putD r182 0 [(DV.v (Value.int IntKind.i64 (c181).1))]))).set ((0 + (Int.toNat (c183).1))) (putD r187 0 [(DV.v (Value.int IntKind.i64 (c186).1))])) c))))))) (
        H40 x4 (IntKind.i64.wrap (x17 + (1 : Int))) b252 b252_1 b252_2 b252_3 b252_4 b252_5 b252_6 b252_7 b4 c))) (
      c = (((b4).take (x4)), ((0 : Int), ())))) : H40 x4 x17 b252 b252_1 b252_2 b252_3 b252_4 b252_5 b252_6 b252_7 b4 c := head_rule (n := 400) (unSum_ok cfg 2 [55]) (by kernel_rfl) h
theorem H6_1048576_step (x4 : Nat) (x5 : Int) (b252 : List (List DV)) (b252_1 : List (List DV)) (b252_2 : List (List DV)) (b252_3 : List (List DV)) (b252_4 : List (List DV)) (b252_5 : List (List DV)) (b252_6 : List (List DV)) (b252_7 : List (List DV)) (b4 : List (List DV)) (b9 : List (List DV)) (c : (List (List DV) × (Int × Unit))) (h :
    cond (decide ((x5 < (((b252).length : Nat) : Int)))) (
      needs ((0 : Int) ≤ x5) (
      optAll ((b252)[(Int.toNat x5)]?) fun (r188 : List DV) =>
      optAll ((dInt IntKind.i64 r188 0)) fun (z189 : Int) =>
      optAll ((dInt IntKind.i64 r188 1)) fun (z190 : Int) =>
      optAll ((dInt IntKind.i64 r188 2)) fun (z191 : Int) =>
      optAll ((dInt IntKind.i64 r188 3)) fun (z192 : Int) =>
      optAll ((dInt IntKind.i64 r188 4)) fun (z193 : Int) =>
      optAll ((dInt IntKind.i64 r188 5)) fun (z194 : Int) =>
      optAll ((dInt IntKind.i64 r188 6)) fun (z195 : Int) =>
      optAll ((dInt IntKind.i64 r188 7)) fun (z196 : Int) =>
      H11_2097152 x4 x5 (0 : Int) (0 : Int) b252 b252_1 b252_2 b252_3 b252_4 b252_5 b252_6 b252_7 b4 z189 z190 z191 z192 z193 z194 z195 z196 b9 c)) (
      H24_2097152 x4 (0 : Int) b252 b252_1 b252_2 b252_3 b252_4 b252_5 b252_6 b252_7 b4 b9 c)) : H6_1048576 x4 x5 b252 b252_1 b252_2 b252_3 b252_4 b252_5 b252_6 b252_7 b4 b9 c := head_rule (n := 400) (unSum_ok cfg 2 [55]) (by kernel_rfl) h
theorem H11_2097152_step (x4 : Nat) (x5 : Int) (x7 : Int) (x8 : Int) (b252 : List (List DV)) (b252_1 : List (List DV)) (b252_2 : List (List DV)) (b252_3 : List (List DV)) (b252_4 : List (List DV)) (b252_5 : List (List DV)) (b252_6 : List (List DV)) (b252_7 : List (List DV)) (b4 : List (List DV)) (b1048768 : Int) (b1048768_1 : Int) (b1048768_2 : Int) (b1048768_3 : Int) (b1048768_4 : Int) (b1048768_5 : Int) (b1048768_6 : Int) (b1048768_7 : Int) (b9 : List (List DV)) (c : (List (List DV) × (Int × Unit))) (h :
    cond (decide ((x8 < (((b252).length : Nat) : Int)))) (
      needs ((0 : Int) ≤ x8) (
      optAll ((b252)[(Int.toNat x8)]?) fun (r197 : List DV) =>
      optAll ((dInt IntKind.i64 r197 0)) fun (z198 : Int) =>
      optAll ((dInt IntKind.i64 r197 1)) fun (z199 : Int) =>
      optAll ((dInt IntKind.i64 r197 2)) fun (z200 : Int) =>
      optAll ((dInt IntKind.i64 r197 3)) fun (z201 : Int) =>
      optAll ((dInt IntKind.i64 r197 4)) fun (z202 : Int) =>
      optAll ((dInt IntKind.i64 r197 5)) fun (z203 : Int) =>
      optAll ((dInt IntKind.i64 r197 6)) fun (z204 : Int) =>
      optAll ((dInt IntKind.i64 r197 7)) fun (z205 : Int) =>
      optAll (ref09_Live.R z198 z199 z200 z201 z202 z203 z204 z205) fun (c206 : (Bool × Unit)) =>
      cond ((c206).1) (
        needs ((0 : Int) ≤ x8) (
        optAll ((b252)[(Int.toNat x8)]?) fun (r207 : List DV) =>
        optAll ((dInt IntKind.i64 r207 6)) fun (z208 : Int) =>
        cond ((z208 == x5)) (
          H11_2097152 x4 x5 (IntKind.i64.wrap (x7 + (1 : Int))) (IntKind.i64.wrap (x8 + (1 : Int))) b252 b252_1 b252_2 b252_3 b252_4 b252_5 b252_6 b252_7 b4 b1048768 b1048768_1 b1048768_2 b1048768_3 b1048768_4 b1048768_5 b1048768_6 b1048768_7 b9 c) (
          H11_2097152 x4 x5 x7 (IntKind.i64.wrap (x8 + (1 : Int))) b252 b252_1 b252_2 b252_3 b252_4 b252_5 b252_6 b252_7 b4 b1048768 b1048768_1 b1048768_2 b1048768_3 b1048768_4 b1048768_5 b1048768_6 b1048768_7 b9 c))) (
        H11_2097152 x4 x5 x7 (IntKind.i64.wrap (x8 + (1 : Int))) b252 b252_1 b252_2 b252_3 b252_4 b252_5 b252_6 b252_7 b4 b1048768 b1048768_1 b1048768_2 b1048768_3 b1048768_4 b1048768_5 b1048768_6 b1048768_7 b9 c))) (
      H17 x4 x5 10 (0 : Int) b252 b252_1 b252_2 b252_3 b252_4 b252_5 b252_6 b252_7 b4 b1048768 b1048768_1 b1048768_2 b1048768_3 b1048768_4 b1048768_5 b1048768_6 b1048768_7 [[(DV.v (Value.int IntKind.i64 (0 : Int)))], [(DV.v (Value.int IntKind.i64 b1048768))], [(DV.v (Value.int IntKind.i64 b1048768_1))], [(DV.v (Value.int IntKind.i64 b1048768_2))], [(DV.v (Value.int IntKind.i64 b1048768_3))], [(DV.v (Value.int IntKind.i64 b1048768_4))], [(DV.v (Value.int IntKind.i64 b1048768_5))], [(DV.v (Value.int IntKind.i64 (IntKind.i64.wrap (b1048768_6 + (1 : Int)))))], [(DV.v (Value.int IntKind.i64 (0 : Int)))], [(DV.v (Value.int IntKind.i64 x7))]] c)) : H11_2097152 x4 x5 x7 x8 b252 b252_1 b252_2 b252_3 b252_4 b252_5 b252_6 b252_7 b4 b1048768 b1048768_1 b1048768_2 b1048768_3 b1048768_4 b1048768_5 b1048768_6 b1048768_7 b9 c := head_rule (n := 400) (unSum_ok cfg 2 [55]) (by kernel_rfl) h
theorem H24_2097152_step (x4 : Nat) (x11 : Int) (b252 : List (List DV)) (b252_1 : List (List DV)) (b252_2 : List (List DV)) (b252_3 : List (List DV)) (b252_4 : List (List DV)) (b252_5 : List (List DV)) (b252_6 : List (List DV)) (b252_7 : List (List DV)) (b4 : List (List DV)) (b9 : List (List DV)) (c : (List (List DV) × (Int × Unit))) (h :
    cond (decide ((x11 < (((b252_3).length : Nat) : Int)))) (
      needs ((0 : Int) ≤ x11) (
      optAll ((b252_3)[(Int.toNat x11)]?) fun (r209 : List DV) =>
      optAll ((dInt IntKind.i64 r209 0)) fun (z210 : Int) =>
      optAll ((dInt IntKind.i64 r209 1)) fun (z211 : Int) =>
      optAll (ref23_Code.R z210 z211) fun (c212 : (Int × Unit)) =>
      cond (((c212).1 == (0 : Int))) (
        H24_2097152 x4 (IntKind.i64.wrap (x11 + (1 : Int))) b252 b252_1 b252_2 b252_3 b252_4 b252_5 b252_6 b252_7 b4 b9 c) (
        optAll (ref12_Get.R b252_2 z210 z211) fun (c213 : ((Int × (Int × (Int × (Int × (Int × Unit))))) × (Bool × Unit))) =>
        optAll (ref03_Word.R ((c213).1).1 (((c213).1).2).1 ((((c213).1).2).2).1 (((((c213).1).2).2).2).1 ((((((c213).1).2).2).2).2).1) fun (c214 : (Int × (Int × Unit))) =>
        optAll (ref23_Slot.R z210 z211 (1 : Int)) fun (c215 : (Int × Unit)) =>
        needs (((0 : Int) ≤ (c215).1) ∧ ((c215).1 < ((x4 : Nat) : Int))) (
        optAll ((b4)[(0 + (Int.toNat (c215).1))]?) fun (r216 : List DV) =>
        needs (1 ≤ (r216).length) (
        optAll (ref23_Slot.R z210 z211 (2 : Int)) fun (c217 : (Int × Unit)) =>
        needs (((0 : Int) ≤ (c217).1) ∧ ((c217).1 < ((x4 : Nat) : Int))) (
        optAll ((((b4).set ((0 + (Int.toNat (c215).1))) (putD r216 0 [(DV.v (Value.int IntKind.i64 (IntKind.i64.wrap (c214).1)))])))[(0 + (Int.toNat (c217).1))]?) fun (r218 : List DV) =>
        needs (1 ≤ (r218).length) (
        optAll (ref23_Slot.R z210 z211 (3 : Int)) fun (c219 : (Int × Unit)) =>
        needs (((0 : Int) ≤ (c219).1) ∧ ((c219).1 < ((x4 : Nat) : Int))) (
        optAll ((((((b4).set ((0 + (Int.toNat (c215).1))) (putD r216 0 [(DV.v (Value.int IntKind.i64 (IntKind.i64.wrap (c214).1)))]))).set ((0 + (Int.toNat (c217).1))) (putD r218 0 [(DV.v (Value.int IntKind.i64 (0 : Int)))])))[(0 + (Int.toNat (c219).1))]?) fun (r220 : List DV) =>
        needs (1 ≤ (r220).length) (
        cond (decide ((x11 > (0 : Int)))) (
          optAll (ref23_Slot.R z210 z211 (2 : Int)) fun (c221 : (Int × Unit)) =>
          needs ((0 : Int) ≤ (IntKind.i64.wrap (x11 - (1 : Int)))) (
          optAll ((b252_3)[(Int.toNat (IntKind.i64.wrap (x11 - (1 : Int))))]?) fun (r222 : List DV) =>
          optAll ((dInt IntKind.i64 r222 0)) fun (z223 : Int) =>
          optAll ((dInt IntKind.i64 r222 1)) fun (z224 : Int) =>
          optAll (ref23_Code.R z223 z224) fun (c225 : (Int × Unit)) =>
          needs (((0 : Int) ≤ (c221).1) ∧ ((c221).1 < ((x4 : Nat) : Int))) (
          optAll ((((((((b4).set ((0 + (Int.toNat (c215).1))) (putD r216 0 [(DV.v (Value.int IntKind.i64 (IntKind.i64.wrap (c214).1)))]))).set ((0 + (Int.toNat (c217).1))) (putD r218 0 [(DV.v (Value.int IntKind.i64 (0 : Int)))]))).set ((0 + (Int.toNat (c219).1))) (putD r220 0 [(DV.v (Value.int IntKind.i64 (0 : Int)))])))[(0 + (Int.toNat (c221).1))]?) fun (r226 : List DV) =>
          needs (1 ≤ (r226).length) (
          cond (decide (((IntKind.i64.wrap (x11 + (1 : Int))) < (((b252_3).length : Nat) : Int)))) (
            optAll (ref23_Slot.R z210 z211 (3 : Int)) fun (c227 : (Int × Unit)) =>
            needs ((0 : Int) ≤ (IntKind.i64.wrap (x11 + (1 : Int)))) (
            optAll ((b252_3)[(Int.toNat (IntKind.i64.wrap (x11 + (1 : Int))))]?) fun (r228 : List DV) =>
            optAll ((dInt IntKind.i64 r228 0)) fun (z229 : Int) =>
            optAll ((dInt IntKind.i64 r228 1)) fun (z230 : Int) =>
            optAll (ref23_Code.R z229 z230) fun (c231 : (Int × Unit)) =>
            needs (((0 : Int) ≤ (c227).1) ∧ ((c227).1 < ((x4 : Nat) : Int))) (
            optAll ((((((((((b4).set ((0 + (Int.toNat (c215).1))) (putD r216 0 [(DV.v (Value.int IntKind.i64 (IntKind.i64.wrap (c214).1)))]))).set ((0 + (Int.toNat (c217).1))) (putD r218 0 [(DV.v (Value.int IntKind.i64 (0 : Int)))]))).set ((0 + (Int.toNat (c219).1))) (putD r220 0 [(DV.v (Value.int IntKind.i64 (0 : Int)))]))).set ((0 + (Int.toNat (c221).1))) (putD r226 0 [(DV.v (Value.int IntKind.i64 (c225).1))])))[(0 + (Int.toNat (c227).1))]?) fun (r232 : List DV) =>
            needs (1 ≤ (r232).length) (
            optAll (ref23_Slot.R z210 z211 (4 : Int)) fun (c233 : (Int × Unit)) =>
            needs ((0 : Int) ≤ x11) (
            optAll ((b252_3)[(Int.toNat x11)]?) fun (r234 : List DV) =>
            optAll ((dInt IntKind.i64 r234 2)) fun (z235 : Int) =>
            needs (((0 : Int) ≤ (c233).1) ∧ ((c233).1 < ((x4 : Nat) : Int))) (
            optAll ((((((((((((b4).set ((0 + (Int.toNat (c215).1))) (putD r216 0 [(DV.v (Value.int IntKind.i64 (IntKind.i64.wrap (c214).1)))]))).set ((0 + (Int.toNat (c217).1))) (putD r218 0 [(DV.v (Value.int IntKind.i64 (0 : Int)))]))).set ((0 + (Int.toNat (c219).1))) (putD r220 0 [(DV.v (Value.int IntKind.i64 (0 : Int)))]))).set ((0 + (Int.toNat (c221).1))) (putD r226 0 [(DV.v (Value.int IntKind.i64 (c225).1))]))).set ((0 + (Int.toNat (c227).1))) (putD r232 0 [(DV.v (Value.int IntKind.i64 (c231).1))])))[(0 + (Int.toNat (c233).1))]?) fun (r236 : List DV) =>
            needs (1 ≤ (r236).length) (
            optAll (ref23_Slot.R z210 z211 (5 : Int)) fun (c237 : (Int × Unit)) =>
            needs ((0 : Int) ≤ x11) (
            optAll ((b252_3)[(Int.toNat x11)]?) fun (r238 : List DV) =>
            optAll ((dBool r238 3)) fun (z239 : Bool) =>
            optAll (ref23_bit.R z239) fun (c240 : (Int × Unit)) =>
            optAll (ref23_swept.R b252 b252_1 b252_2 b252_3 b252_4 b252_5 b252_6 b252_7 z210 z211) fun (c241 : (Bool × Unit)) =>
            optAll (ref23_bit.R (c241).1) fun (c242 : (Int × Unit)) =>
            needs (((0 : Int) ≤ (c237).1) ∧ ((c237).1 < ((x4 : Nat) : Int))) (
            optAll ((((((((((((((b4).set ((0 + (Int.toNat (c215).1))) (putD r216 0 [(DV.v (Value.int IntKind.i64 (IntKind.i64.wrap (c214).1)))]))).set ((0 + (Int.toNat (c217).1))) (putD r218 0 [(DV.v (Value.int IntKind.i64 (0 : Int)))]))).set ((0 + (Int.toNat (c219).1))) (putD r220 0 [(DV.v (Value.int IntKind.i64 (0 : Int)))]))).set ((0 + (Int.toNat (c221).1))) (putD r226 0 [(DV.v (Value.int IntKind.i64 (c225).1))]))).set ((0 + (Int.toNat (c227).1))) (putD r232 0 [(DV.v (Value.int IntKind.i64 (c231).1))]))).set ((0 + (Int.toNat (c233).1))) (putD r236 0 [(DV.v (Value.int IntKind.i64 z235))])))[(0 + (Int.toNat (c237).1))]?) fun (r243 : List DV) =>
            needs (1 ≤ (r243).length) (
            H24_2097152 x4 (IntKind.i64.wrap (x11 + (1 : Int))) b252 b252_1 b252_2 b252_3 b252_4 b252_5 b252_6 b252_7 ((((((((((((((b4).set ((0 + (Int.toNat (c215).1))) (putD r216 0 [(DV.v (Value.int IntKind.i64 (IntKind.i64.wrap (c214).1)))]))).set ((0 + (Int.toNat (c217).1))) (putD r218 0 [(DV.v (Value.int IntKind.i64 (0 : Int)))]))).set ((0 + (Int.toNat (c219).1))) (putD r220 0 [(DV.v (Value.int IntKind.i64 (0 : Int)))]))).set ((0 + (Int.toNat (c221).1))) (putD r226 0 [(DV.v (Value.int IntKind.i64 (c225).1))]))).set ((0 + (Int.toNat (c227).1))) (putD r232 0 [(DV.v (Value.int IntKind.i64 (c231).1))]))).set ((0 + (Int.toNat (c233).1))) (putD r236 0 [(DV.v (Value.int IntKind.i64 z235))]))).set ((0 + (Int.toNat (c237).1))) (putD r243 0 [(DV.v (Value.int IntKind.i64 (IntKind.i64.wrap ((c240).1 + (IntKind.i64.wrap ((2 : Int) * (c242).1))))))])) b9 c)))))))))) (
            optAll (ref23_Slot.R z210 z211 (4 : Int)) fun (c244 : (Int × Unit)) =>
            needs ((0 : Int) ≤ x11) (
            optAll ((b252_3)[(Int.toNat x11)]?) fun (r245 : List DV) =>
            optAll ((dInt IntKind.i64 r245 2)) fun (z246 : Int) =>
            needs (((0 : Int) ≤ (c244).1) ∧ ((c244).1 < ((x4 : Nat) : Int))) (
            optAll ((((((((((b4).set ((0 + (Int.toNat (c215).1))) (putD r216 0 [(DV.v (Value.int IntKind.i64 (IntKind.i64.wrap (c214).1)))]))).set ((0 + (Int.toNat (c217).1))) (putD r218 0 [(DV.v (Value.int IntKind.i64 (0 : Int)))]))).set ((0 + (Int.toNat (c219).1))) (putD r220 0 [(DV.v (Value.int IntKind.i64 (0 : Int)))]))).set ((0 + (Int.toNat (c221).1))) (putD r226 0 [(DV.v (Value.int IntKind.i64 (c225).1))])))[(0 + (Int.toNat (c244).1))]?) fun (r247 : List DV) =>
            needs (1 ≤ (r247).length) (
            optAll (ref23_Slot.R z210 z211 (5 : Int)) fun (c248 : (Int × Unit)) =>
            needs ((0 : Int) ≤ x11) (
            optAll ((b252_3)[(Int.toNat x11)]?) fun (r249 : List DV) =>
            optAll ((dBool r249 3)) fun (z250 : Bool) =>
            optAll (ref23_bit.R z250) fun (c251 : (Int × Unit)) =>
            optAll (ref23_swept.R b252 b252_1 b252_2 b252_3 b252_4 b252_5 b252_6 b252_7 z210 z211) fun (c252 : (Bool × Unit)) =>
            optAll (ref23_bit.R (c252).1) fun (c253 : (Int × Unit)) =>
            needs (((0 : Int) ≤ (c248).1) ∧ ((c248).1 < ((x4 : Nat) : Int))) (
            optAll ((((((((((((b4).set ((0 + (Int.toNat (c215).1))) (putD r216 0 [(DV.v (Value.int IntKind.i64 (IntKind.i64.wrap (c214).1)))]))).set ((0 + (Int.toNat (c217).1))) (putD r218 0 [(DV.v (Value.int IntKind.i64 (0 : Int)))]))).set ((0 + (Int.toNat (c219).1))) (putD r220 0 [(DV.v (Value.int IntKind.i64 (0 : Int)))]))).set ((0 + (Int.toNat (c221).1))) (putD r226 0 [(DV.v (Value.int IntKind.i64 (c225).1))]))).set ((0 + (Int.toNat (c244).1))) (putD r247 0 [(DV.v (Value.int IntKind.i64 z246))])))[(0 + (Int.toNat (c248).1))]?) fun (r254 : List DV) =>
            needs (1 ≤ (r254).length) (
            H24_2097152 x4 (IntKind.i64.wrap (x11 + (1 : Int))) b252 b252_1 b252_2 b252_3 b252_4 b252_5 b252_6 b252_7 ((((((((((((b4).set ((0 + (Int.toNat (c215).1))) (putD r216 0 [(DV.v (Value.int IntKind.i64 (IntKind.i64.wrap (c214).1)))]))).set ((0 + (Int.toNat (c217).1))) (putD r218 0 [(DV.v (Value.int IntKind.i64 (0 : Int)))]))).set ((0 + (Int.toNat (c219).1))) (putD r220 0 [(DV.v (Value.int IntKind.i64 (0 : Int)))]))).set ((0 + (Int.toNat (c221).1))) (putD r226 0 [(DV.v (Value.int IntKind.i64 (c225).1))]))).set ((0 + (Int.toNat (c244).1))) (putD r247 0 [(DV.v (Value.int IntKind.i64 z246))]))).set ((0 + (Int.toNat (c248).1))) (putD r254 0 [(DV.v (Value.int IntKind.i64 (IntKind.i64.wrap ((c251).1 + (IntKind.i64.wrap ((2 : Int) * (c253).1))))))])) b9 c))))))))))) (
          cond (decide (((IntKind.i64.wrap (x11 + (1 : Int))) < (((b252_3).length : Nat) : Int)))) (
            optAll (ref23_Slot.R z210 z211 (3 : Int)) fun (c255 : (Int × Unit)) =>
            needs ((0 : Int) ≤ (IntKind.i64.wrap (x11 + (1 : Int)))) (
            optAll ((b252_3)[(Int.toNat (IntKind.i64.wrap (x11 + (1 : Int))))]?) fun (r256 : List DV) =>
            optAll ((dInt IntKind.i64 r256 0)) fun (z257 : Int) =>
            optAll ((dInt IntKind.i64 r256 1)) fun (z258 : Int) =>
            optAll (ref23_Code.R z257 z258) fun (c259 : (Int × Unit)) =>
            needs (((0 : Int) ≤ (c255).1) ∧ ((c255).1 < ((x4 : Nat) : Int))) (
            optAll ((((((((b4).set ((0 + (Int.toNat (c215).1))) (putD r216 0 [(DV.v (Value.int IntKind.i64 (IntKind.i64.wrap (c214).1)))]))).set ((0 + (Int.toNat (c217).1))) (putD r218 0 [(DV.v (Value.int IntKind.i64 (0 : Int)))]))).set ((0 + (Int.toNat (c219).1))) (putD r220 0 [(DV.v (Value.int IntKind.i64 (0 : Int)))])))[(0 + (Int.toNat (c255).1))]?) fun (r260 : List DV) =>
            needs (1 ≤ (r260).length) (
            optAll (ref23_Slot.R z210 z211 (4 : Int)) fun (c261 : (Int × Unit)) =>
            needs ((0 : Int) ≤ x11) (
            optAll ((b252_3)[(Int.toNat x11)]?) fun (r262 : List DV) =>
            optAll ((dInt IntKind.i64 r262 2)) fun (z263 : Int) =>
            needs (((0 : Int) ≤ (c261).1) ∧ ((c261).1 < ((x4 : Nat) : Int))) (
            optAll ((((((((((b4).set ((0 + (Int.toNat (c215).1))) (putD r216 0 [(DV.v (Value.int IntKind.i64 (IntKind.i64.wrap (c214).1)))]))).set ((0 + (Int.toNat (c217).1))) (putD r218 0 [(DV.v (Value.int IntKind.i64 (0 : Int)))]))).set ((0 + (Int.toNat (c219).1))) (putD r220 0 [(DV.v (Value.int IntKind.i64 (0 : Int)))]))).set ((0 + (Int.toNat (c255).1))) (putD r260 0 [(DV.v (Value.int IntKind.i64 (c259).1))])))[(0 + (Int.toNat (c261).1))]?) fun (r264 : List DV) =>
            needs (1 ≤ (r264).length) (
            optAll (ref23_Slot.R z210 z211 (5 : Int)) fun (c265 : (Int × Unit)) =>
            needs ((0 : Int) ≤ x11) (
            optAll ((b252_3)[(Int.toNat x11)]?) fun (r266 : List DV) =>
            optAll ((dBool r266 3)) fun (z267 : Bool) =>
            optAll (ref23_bit.R z267) fun (c268 : (Int × Unit)) =>
            optAll (ref23_swept.R b252 b252_1 b252_2 b252_3 b252_4 b252_5 b252_6 b252_7 z210 z211) fun (c269 : (Bool × Unit)) =>
            optAll (ref23_bit.R (c269).1) fun (c270 : (Int × Unit)) =>
            needs (((0 : Int) ≤ (c265).1) ∧ ((c265).1 < ((x4 : Nat) : Int))) (
            optAll ((((((((((((b4).set ((0 + (Int.toNat (c215).1))) (putD r216 0 [(DV.v (Value.int IntKind.i64 (IntKind.i64.wrap (c214).1)))]))).set ((0 + (Int.toNat (c217).1))) (putD r218 0 [(DV.v (Value.int IntKind.i64 (0 : Int)))]))).set ((0 + (Int.toNat (c219).1))) (putD r220 0 [(DV.v (Value.int IntKind.i64 (0 : Int)))]))).set ((0 + (Int.toNat (c255).1))) (putD r260 0 [(DV.v (Value.int IntKind.i64 (c259).1))]))).set ((0 + (Int.toNat (c261).1))) (putD r264 0 [(DV.v (Value.int IntKind.i64 z263))])))[(0 + (Int.toNat (c265).1))]?) fun (r271 : List DV) =>
            needs (1 ≤ (r271).length) (
            H24_2097152 x4 (IntKind.i64.wrap (x11 + (1 : Int))) b252 b252_1 b252_2 b252_3 b252_4 b252_5 b252_6 b252_7 ((((((((((((b4).set ((0 + (Int.toNat (c215).1))) (putD r216 0 [(DV.v (Value.int IntKind.i64 (IntKind.i64.wrap (c214).1)))]))).set ((0 + (Int.toNat (c217).1))) (putD r218 0 [(DV.v (Value.int IntKind.i64 (0 : Int)))]))).set ((0 + (Int.toNat (c219).1))) (putD r220 0 [(DV.v (Value.int IntKind.i64 (0 : Int)))]))).set ((0 + (Int.toNat (c255).1))) (putD r260 0 [(DV.v (Value.int IntKind.i64 (c259).1))]))).set ((0 + (Int.toNat (c261).1))) (putD r264 0 [(DV.v (Value.int IntKind.i64 z263))]))).set ((0 + (Int.toNat (c265).1))) (putD r271 0 [(DV.v (Value.int IntKind.i64 (IntKind.i64.wrap ((c268).1 + (IntKind.i64.wrap ((2 : Int) * (c270).1))))))])) b9 c)))))))))) (
            optAll (ref23_Slot.R z210 z211 (4 : Int)) fun (c272 : (Int × Unit)) =>
            needs ((0 : Int) ≤ x11) (
            optAll ((b252_3)[(Int.toNat x11)]?) fun (r273 : List DV) =>
            optAll ((dInt IntKind.i64 r273 2)) fun (z274 : Int) =>
            needs (((0 : Int) ≤ (c272).1) ∧ ((c272).1 < ((x4 : Nat) : Int))) (
            optAll ((((((((b4).set ((0 + (Int.toNat (c215).1))) (putD r216 0 [(DV.v (Value.int IntKind.i64 (IntKind.i64.wrap (c214).1)))]))).set ((0 + (Int.toNat (c217).1))) (putD r218 0 [(DV.v (Value.int IntKind.i64 (0 : Int)))]))).set ((0 + (Int.toNat (c219).1))) (putD r220 0 [(DV.v (Value.int IntKind.i64 (0 : Int)))])))[(0 + (Int.toNat (c272).1))]?) fun (r275 : List DV) =>
            needs (1 ≤ (r275).length) (
            optAll (ref23_Slot.R z210 z211 (5 : Int)) fun (c276 : (Int × Unit)) =>
            needs ((0 : Int) ≤ x11) (
            optAll ((b252_3)[(Int.toNat x11)]?) fun (r277 : List DV) =>
            optAll ((dBool r277 3)) fun (z278 : Bool) =>
            optAll (ref23_bit.R z278) fun (c279 : (Int × Unit)) =>
            optAll (ref23_swept.R b252 b252_1 b252_2 b252_3 b252_4 b252_5 b252_6 b252_7 z210 z211) fun (c280 : (Bool × Unit)) =>
            optAll (ref23_bit.R (c280).1) fun (c281 : (Int × Unit)) =>
            needs (((0 : Int) ≤ (c276).1) ∧ ((c276).1 < ((x4 : Nat) : Int))) (
            optAll ((((((((((b4).set ((0 + (Int.toNat (c215).1))) (putD r216 0 [(DV.v (Value.int IntKind.i64 (IntKind.i64.wrap (c214).1)))]))).set ((0 + (Int.toNat (c217).1))) (putD r218 0 [(DV.v (Value.int IntKind.i64 (0 : Int)))]))).set ((0 + (Int.toNat (c219).1))) (putD r220 0 [(DV.v (Value.int IntKind.i64 (0 : Int)))]))).set ((0 + (Int.toNat (c272).1))) (putD r275 0 [(DV.v (Value.int IntKind.i64 z274))])))[(0 + (Int.toNat (c276).1))]?) fun (r282 : List DV) =>
            needs (1 ≤ (r282).length) (
            H24_2097152 x4 (IntKind.i64.wrap (x11 + (1 : Int))) b252 b252_1 b252_2 b252_3 b252_4 b252_5 b252_6 b252_7 ((((((((((b4).set ((0 + (Int.toNat (c215).1))) (putD r216 0 [(DV.v (Value.int IntKind.i64 (IntKind.i64.wrap (c214).1)))]))).set ((0 + (Int.toNat (c217).1))) (putD r218 0 [(DV.v (Value.int IntKind.i64 (0 : Int)))]))).set ((0 + (Int.toNat (c219).1))) (putD r220 0 [(DV.v (Value.int IntKind.i64 (0 : Int)))]))).set ((0 + (Int.toNat (c272).1))) (putD r275 0 [(DV.v (Value.int IntKind.i64 z274))]))).set ((0 + (Int.toNat (c276).1))) (putD r282 0 [(DV.v (Value.int IntKind.i64 (IntKind.i64.wrap ((c279).1 + (IntKind.i64.wrap ((2 : Int) * (c281).1))))))])) b9 c))))))))))))))))) (
      H40_3145728 x4 (0 : Int) b252 b252_1 b252_2 b252_3 b252_4 b252_5 b252_6 b252_7 b4 b9 c)) : H24_2097152 x4 x11 b252 b252_1 b252_2 b252_3 b252_4 b252_5 b252_6 b252_7 b4 b9 c := head_rule (n := 400) (unSum_ok cfg 2 [55]) (by kernel_rfl) h
theorem H40_3145728_step (x4 : Nat) (x17 : Int) (b252 : List (List DV)) (b252_1 : List (List DV)) (b252_2 : List (List DV)) (b252_3 : List (List DV)) (b252_4 : List (List DV)) (b252_5 : List (List DV)) (b252_6 : List (List DV)) (b252_7 : List (List DV)) (b4 : List (List DV)) (b9 : List (List DV)) (c : (List (List DV) × (Int × Unit))) (h :
    cond (decide ((x17 < (((b252_7).length : Nat) : Int)))) (
      needs ((0 : Int) ≤ x17) (
      optAll ((b252_7)[(Int.toNat x17)]?) fun (r283 : List DV) =>
      optAll ((dBool r283 0)) fun (z284 : Bool) =>
      cond (z284) (
        optAll (ref23_Core.R x17 (13 : Int)) fun (c285 : (Int × Unit)) =>
        needs ((0 : Int) ≤ x17) (
        optAll ((b252_7)[(Int.toNat x17)]?) fun (r286 : List DV) =>
        optAll ((dInt IntKind.i64 r286 1)) fun (z287 : Int) =>
        optAll ((dInt IntKind.i64 r286 2)) fun (z288 : Int) =>
        optAll (ref23_Code.R z287 z288) fun (c289 : (Int × Unit)) =>
        needs (((0 : Int) ≤ (c285).1) ∧ ((c285).1 < ((x4 : Nat) : Int))) (
        optAll ((b4)[(0 + (Int.toNat (c285).1))]?) fun (r290 : List DV) =>
        needs (1 ≤ (r290).length) (
        optAll (ref23_Core.R x17 (14 : Int)) fun (c291 : (Int × Unit)) =>
        needs ((0 : Int) ≤ x17) (
        optAll ((b252_7)[(Int.toNat x17)]?) fun (r292 : List DV) =>
        optAll ((dBool r292 3)) fun (z293 : Bool) =>
        optAll (ref23_bit.R z293) fun (c294 : (Int × Unit)) =>
        needs (((0 : Int) ≤ (c291).1) ∧ ((c291).1 < ((x4 : Nat) : Int))) (
        optAll ((((b4).set ((0 + (Int.toNat (c285).1))) (putD r290 0 [(DV.v (Value.int IntKind.i64 (c289).1))])))[(0 + (Int.toNat (c291).1))]?) fun (r295 : List DV) =>
        needs (1 ≤ (r295).length) (
        H40_3145728 x4 (IntKind.i64.wrap (x17 + (1 : Int))) b252 b252_1 b252_2 b252_3 b252_4 b252_5 b252_6 b252_7 ((((b4).set ((0 + (Int.toNat (c285).1))) (putD r290 0 [(DV.v (Value.int IntKind.i64 (c289).1))]))).set ((0 + (Int.toNat (c291).1))) (putD r295 0 [(DV.v (Value.int IntKind.i64 (c294).1))])) b9 c))))))) (
        H40_3145728 x4 (IntKind.i64.wrap (x17 + (1 : Int))) b252 b252_1 b252_2 b252_3 b252_4 b252_5 b252_6 b252_7 b4 b9 c))) (
      c = (((b4).take (x4)), ((0 : Int), ())))) : H40_3145728 x4 x17 b252 b252_1 b252_2 b252_3 b252_4 b252_5 b252_6 b252_7 b4 b9 c := head_rule (n := 400) (unSum_ok cfg 2 [55]) (by kernel_rfl) h
end ref23_Encode
/-! garrison/garrisonref23.Fits -/
namespace ref23_Fits
def lv : Live := []
theorem start (a0_0 : List (List DV)) (a0_1 : List (List DV)) (a0_2 : List (List DV)) (a0_3 : List (List DV)) (a0_4 : List (List DV)) (a0_5 : List (List DV)) (a0_6 : List (List DV)) (a0_7 : List (List DV)) (c : (Bool × Unit)) (h :
    cond (decide (((((a0_0).length : Nat) : Int) ≤ (56 : Int)))) (
      c = (decide (((((a0_7).length : Nat) : Int) ≤ (31 : Int))), ())) (
      c = (false, ()))) : R a0_0 a0_1 a0_2 a0_3 a0_4 a0_5 a0_6 a0_7 = some c := start_rule (n := 400) (lv := lv) (noSum_ok _) (by kernel_rfl) h
end ref23_Fits
/-! garrison/garrisonref09.Live -/
namespace ref09_Live
def lv : Live := []
theorem start (a0_0 : Int) (a0_1 : Int) (a0_2 : Int) (a0_3 : Int) (a0_4 : Int) (a0_5 : Int) (a0_6 : Int) (a0_7 : Int) (c : (Bool × Unit)) (h :
    cond (decide ((a0_0 ≥ (1 : Int)))) (
      c = (decide ((a0_0 ≤ (5 : Int))), ())) (
      c = (false, ()))) : R a0_0 a0_1 a0_2 a0_3 a0_4 a0_5 a0_6 a0_7 = some c := start_rule (n := 400) (lv := lv) (noSum_ok _) (by kernel_rfl) h
end ref09_Live
/-! garrison/garrisonref12.Get -/
namespace ref12_Get
def lv : Live := []
theorem start (a0 : List (List DV)) (a1_0 : Int) (a1_1 : Int) (c : ((Int × (Int × (Int × (Int × (Int × Unit))))) × (Bool × Unit))) (h :
    cond (decide ((a1_0 < (0 : Int)))) (
      c = (((0 : Int), ((0 : Int), ((0 : Int), ((0 : Int), ((0 : Int), ()))))), (false, ()))) (
      cond (decide ((a1_0 ≥ (((a0).length : Nat) : Int)))) (
        c = (((0 : Int), ((0 : Int), ((0 : Int), ((0 : Int), ((0 : Int), ()))))), (false, ()))) (
        needs ((0 : Int) ≤ a1_0) (
        optAll ((a0)[(Int.toNat a1_0)]?) fun (r0 : List DV) =>
        optAll ((dLst 5 r0 0)) fun (l1 : List (List DV)) =>
        cond (((((l1).length : Nat) : Int) != (8 : Int))) (
          c = (((0 : Int), ((0 : Int), ((0 : Int), ((0 : Int), ((0 : Int), ()))))), (false, ()))) (
          cond (decide ((a1_1 < (0 : Int)))) (
            c = (((0 : Int), ((0 : Int), ((0 : Int), ((0 : Int), ((0 : Int), ()))))), (false, ()))) (
            cond (decide ((a1_1 ≥ (8 : Int)))) (
              c = (((0 : Int), ((0 : Int), ((0 : Int), ((0 : Int), ((0 : Int), ()))))), (false, ()))) (
              needs ((0 : Int) ≤ a1_0) (
              optAll ((a0)[(Int.toNat a1_0)]?) fun (r2 : List DV) =>
              optAll ((dLst 5 r2 0)) fun (l3 : List (List DV)) =>
              needs ((0 : Int) ≤ a1_1) (
              optAll ((l3)[(Int.toNat a1_1)]?) fun (r4 : List DV) =>
              optAll ((dInt IntKind.i64 r4 0)) fun (z5 : Int) =>
              optAll ((dInt IntKind.i64 r4 1)) fun (z6 : Int) =>
              optAll ((dInt IntKind.i64 r4 2)) fun (z7 : Int) =>
              optAll ((dInt IntKind.i64 r4 3)) fun (z8 : Int) =>
              optAll ((dInt IntKind.i64 r4 4)) fun (z9 : Int) =>
              c = ((z5, (z6, (z7, (z8, (z9, ()))))), (true, ()))))))))))) : R a0 a1_0 a1_1 = some c := start_rule (n := 400) (lv := lv) (noSum_ok _) (by kernel_rfl) h
end ref12_Get
/-! garrison/garrisonref03.Word -/
namespace ref03_Word
def lv : Live := [((9, 1048576), [4, 5, 6, 7, 8], [5, 6, 7])]
abbrev H9 (x4 : Int) (x5 : Nat) (x6 : Nat) (x7 : Nat) (x8 : Int) (b5 : List (List DV)) (b6 : List (List DV)) (b7 : List (List DV)) (c : (Int × (Int × Unit))) : Prop := HeadAns cfg 57 sh lv (bd cfg 57 [1, 1, 1, 1, 1, 1, 0, 1, 0, 0]) 1048576 [.inBlock 0, .code (bd cfg 57 [1, 1, 1, 1, 1, 1, 1])]
  [(AV.d (DV.v (Value.int IntKind.u64 x4))), (AV.ref 5 0 0 x5), (AV.ref 6 0 0 x6), (AV.ref 7 0 0 x7), (AV.d (DV.v (Value.int IntKind.i64 x8)))] [(Option.some (VBlk.drow 1 0 b5)), (Option.some (VBlk.drow 1 0 b6)), (Option.some (VBlk.drow 1 0 b7))] 1048576 c
theorem start (a0_0 : Int) (a0_1 : Int) (a0_2 : Int) (a0_3 : Int) (a0_4 : Int) (c : (Int × (Int × Unit))) (h :
    optAll (ref03_Is.R a0_0 a0_1 a0_2 a0_3 a0_4) fun (c0 : (Bool × Unit)) =>
    cond ((!(c0).1)) (
      c = ((0 : Int), ((30 : Int), ()))) (
      H9 (0 : Int) 5 5 5 (0 : Int) [[(DV.v (Value.int IntKind.i64 (0 : Int)))], [(DV.v (Value.int IntKind.i64 (4 : Int)))], [(DV.v (Value.int IntKind.i64 (8 : Int)))], [(DV.v (Value.int IntKind.i64 (24 : Int)))], [(DV.v (Value.int IntKind.i64 (34 : Int)))]] [[(DV.v (Value.int IntKind.i64 (4 : Int)))], [(DV.v (Value.int IntKind.i64 (4 : Int)))], [(DV.v (Value.int IntKind.i64 (16 : Int)))], [(DV.v (Value.int IntKind.i64 (10 : Int)))], [(DV.v (Value.int IntKind.i64 (12 : Int)))]] [[(DV.v (Value.int IntKind.i64 a0_0))], [(DV.v (Value.int IntKind.i64 a0_1))], [(DV.v (Value.int IntKind.i64 a0_2))], [(DV.v (Value.int IntKind.i64 a0_3))], [(DV.v (Value.int IntKind.i64 a0_4))]] c)) : R a0_0 a0_1 a0_2 a0_3 a0_4 = some c := start_rule (n := 400) (lv := lv) (noSum_ok _) (by kernel_rfl) h
theorem H9_step (x4 : Int) (x5 : Nat) (x6 : Nat) (x7 : Nat) (x8 : Int) (b5 : List (List DV)) (b6 : List (List DV)) (b7 : List (List DV)) (c : (Int × (Int × Unit))) (h :
    cond (decide ((x8 < (5 : Int)))) (
      needs (((0 : Int) ≤ x8) ∧ (x8 < ((x5 : Nat) : Int))) (
      optAll ((b5)[(0 + (Int.toNat x8))]?) fun (r1 : List DV) =>
      optAll ((dInt IntKind.i64 r1 0)) fun (z2 : Int) =>
      needs (((0 : Int) ≤ x8) ∧ (x8 < ((x6 : Nat) : Int))) (
      optAll ((b6)[(0 + (Int.toNat x8))]?) fun (r3 : List DV) =>
      optAll ((dInt IntKind.i64 r3 0)) fun (z4 : Int) =>
      needs (((0 : Int) ≤ x8) ∧ (x8 < ((x7 : Nat) : Int))) (
      optAll ((b7)[(0 + (Int.toNat x8))]?) fun (r5 : List DV) =>
      optAll ((dInt IntKind.i64 r5 0)) fun (z6 : Int) =>
      optAll (ref01_Put.R x4 z2 z4 (IntKind.u64.wrap z6)) fun (c7 : (Int × (Int × Unit))) =>
      H9 (c7).1 x5 x6 x7 (IntKind.i64.wrap (x8 + (1 : Int))) b5 b6 b7 c)))) (
      c = (x4, ((0 : Int), ())))) : H9 x4 x5 x6 x7 x8 b5 b6 b7 c := head_rule (n := 400) (noSum_ok _) (by kernel_rfl) h
end ref03_Word
/-! garrison/garrisonref23.bit -/
namespace ref23_bit
def lv : Live := []
theorem start (a0 : Bool) (c : (Int × Unit)) (h :
    cond (a0) (
      c = ((1 : Int), ())) (
      c = ((0 : Int), ()))) : R a0 = some c := start_rule (n := 400) (lv := lv) (noSum_ok _) (by kernel_rfl) h
end ref23_bit
/-! garrison/garrisonref23.swept -/
namespace ref23_swept
def lv : Live := [((3, 1048576), [2, 3, 5], [38, 54])]
abbrev H3 (x5 : Int) (b38 : List (List DV)) (b38_1 : List (List DV)) (b38_2 : List (List DV)) (b38_3 : List (List DV)) (b38_4 : List (List DV)) (b38_5 : List (List DV)) (b38_6 : List (List DV)) (b38_7 : List (List DV)) (b54 : Int) (b54_1 : Int) (c : (Bool × Unit)) : Prop := HeadAns cfg 59 sh lv (bd cfg 59 [1, 0, 1, 0, 0]) 1048576 [.inBlock 0, .code (bd cfg 59 [1, 1])]
  [(AV.ptr 38 0 0 0), (AV.ptr 54 0 0 0), (AV.d (DV.v (Value.int IntKind.i64 x5)))] [(Option.some (VBlk.cell 8 0 [(AV.d (DV.lst 8 b38)), (AV.d (DV.lst 1 b38_1)), (AV.d (DV.lst 1 b38_2)), (AV.d (DV.lst 4 b38_3)), (AV.d (DV.lst 3 b38_4)), (AV.d (DV.lst 1 b38_5)), (AV.d (DV.lst 1 b38_6)), (AV.d (DV.lst 4 b38_7))])), (Option.some (VBlk.cell 2 0 [(AV.d (DV.v (Value.int IntKind.i64 b54))), (AV.d (DV.v (Value.int IntKind.i64 b54_1)))]))] 1048576 c
theorem start (a0_0 : List (List DV)) (a0_1 : List (List DV)) (a0_2 : List (List DV)) (a0_3 : List (List DV)) (a0_4 : List (List DV)) (a0_5 : List (List DV)) (a0_6 : List (List DV)) (a0_7 : List (List DV)) (a1_0 : Int) (a1_1 : Int) (c : (Bool × Unit)) (h :
    H3 (0 : Int) a0_0 a0_1 a0_2 a0_3 a0_4 a0_5 a0_6 a0_7 a1_0 a1_1 c) : R a0_0 a0_1 a0_2 a0_3 a0_4 a0_5 a0_6 a0_7 a1_0 a1_1 = some c := start_rule (n := 400) (lv := lv) (noSum_ok _) (by kernel_rfl) h
theorem H3_step (x5 : Int) (b38 : List (List DV)) (b38_1 : List (List DV)) (b38_2 : List (List DV)) (b38_3 : List (List DV)) (b38_4 : List (List DV)) (b38_5 : List (List DV)) (b38_6 : List (List DV)) (b38_7 : List (List DV)) (b54 : Int) (b54_1 : Int) (c : (Bool × Unit)) (h :
    cond (decide ((x5 < (((b38_7).length : Nat) : Int)))) (
      needs ((0 : Int) ≤ x5) (
      optAll ((b38_7)[(Int.toNat x5)]?) fun (r0 : List DV) =>
      optAll ((dBool r0 0)) fun (z1 : Bool) =>
      cond (z1) (
        needs ((0 : Int) ≤ x5) (
        optAll ((b38_7)[(Int.toNat x5)]?) fun (r2 : List DV) =>
        optAll ((dBool r2 3)) fun (z3 : Bool) =>
        cond ((!z3)) (
          needs ((0 : Int) ≤ x5) (
          optAll ((b38_7)[(Int.toNat x5)]?) fun (r4 : List DV) =>
          optAll ((dInt IntKind.i64 r4 1)) fun (z5 : Int) =>
          optAll ((dInt IntKind.i64 r4 2)) fun (z6 : Int) =>
          cond (((z5 == b54) && ((z6 == b54_1) && true))) (
            c = (true, ())) (
            H3 (IntKind.i64.wrap (x5 + (1 : Int))) b38 b38_1 b38_2 b38_3 b38_4 b38_5 b38_6 b38_7 b54 b54_1 c))) (
          H3 (IntKind.i64.wrap (x5 + (1 : Int))) b38 b38_1 b38_2 b38_3 b38_4 b38_5 b38_6 b38_7 b54 b54_1 c))) (
        H3 (IntKind.i64.wrap (x5 + (1 : Int))) b38 b38_1 b38_2 b38_3 b38_4 b38_5 b38_6 b38_7 b54 b54_1 c))) (
      c = (false, ()))) : H3 x5 b38 b38_1 b38_2 b38_3 b38_4 b38_5 b38_6 b38_7 b54 b54_1 c := head_rule (n := 400) (noSum_ok _) (by kernel_rfl) h
end ref23_swept
/-! garrison/garrisonref23.Object -/
namespace ref23_Object
def lv : Live := []
theorem start (a0 : Int) (a1 : Int) (c : (Int × Unit)) (h :
    cond (decide ((a0 < (0 : Int)))) (
      c = ((-1 : Int), ())) (
      cond (decide ((a0 ≥ (56 : Int)))) (
        c = ((-1 : Int), ())) (
        cond (decide ((a1 < (0 : Int)))) (
          c = ((-1 : Int), ())) (
          cond (decide ((a1 > (15 : Int)))) (
            c = ((-1 : Int), ())) (
            c = ((IntKind.i64.wrap ((IntKind.i64.wrap ((64 : Int) * a0)) + a1)), ())))))) : R a0 a1 = some c := start_rule (n := 400) (lv := lv) (noSum_ok _) (by kernel_rfl) h
end ref23_Object
/-! garrison/garrisonref23.Core -/
namespace ref23_Core
def lv : Live := []
theorem start (a0 : Int) (a1 : Int) (c : (Int × Unit)) (h :
    cond (decide ((a0 < (0 : Int)))) (
      c = ((-1 : Int), ())) (
      cond (decide ((a0 ≥ (31 : Int)))) (
        c = ((-1 : Int), ())) (
        cond (decide ((a1 < (0 : Int)))) (
          c = ((-1 : Int), ())) (
          cond (decide ((a1 > (15 : Int)))) (
            c = ((-1 : Int), ())) (
            c = ((IntKind.i64.wrap ((IntKind.i64.wrap ((3584 : Int) + (IntKind.i64.wrap ((16 : Int) * a0)))) + a1)), ())))))) : R a0 a1 = some c := start_rule (n := 400) (lv := lv) (noSum_ok _) (by kernel_rfl) h
end ref23_Core
/-! garrison/garrisonref03.Is -/
namespace ref03_Is
def lv : Live := []
theorem start (a0_0 : Int) (a0_1 : Int) (a0_2 : Int) (a0_3 : Int) (a0_4 : Int) (c : (Bool × Unit)) (h :
    cond (((a0_0 == (0 : Int)) && ((a0_1 == (0 : Int)) && ((a0_2 == (0 : Int)) && ((a0_3 == (0 : Int)) && ((a0_4 == (0 : Int)) && true)))))) (
      c = (true, ())) (
      cond ((a0_0 == (2 : Int))) (
        cond ((a0_0 == (4 : Int))) (
          cond (decide ((a0_0 ≥ (1 : Int)))) (
            cond (decide ((a0_0 ≤ (5 : Int)))) (
              optAll (ref02_Is.R a0_1) fun (c0 : (Bool × Unit)) =>
              cond ((c0).1) (
                cond (decide ((a0_2 ≥ (0 : Int)))) (
                  cond (decide ((a0_2 ≤ (65535 : Int)))) (
                    cond (decide ((a0_3 ≥ (0 : Int)))) (
                      cond (decide ((a0_3 ≤ (1023 : Int)))) (
                        cond (decide ((a0_4 ≥ (0 : Int)))) (
                          c = (decide ((a0_4 ≤ (4095 : Int))), ())) (
                          c = (false, ()))) (
                        c = (false, ()))) (
                      c = (false, ()))) (
                    c = (false, ()))) (
                  c = (false, ()))) (
                c = (false, ()))) (
              c = (false, ()))) (
            c = (false, ()))) (
          cond ((a0_0 == (5 : Int))) (
            cond (decide ((a0_0 ≥ (1 : Int)))) (
              cond (decide ((a0_0 ≤ (5 : Int)))) (
                optAll (ref02_Is.R a0_1) fun (c1 : (Bool × Unit)) =>
                cond ((c1).1) (
                  cond (decide ((a0_2 ≥ (0 : Int)))) (
                    cond (decide ((a0_2 ≤ (65535 : Int)))) (
                      cond (decide ((a0_3 ≥ (0 : Int)))) (
                        cond (decide ((a0_3 ≤ (1023 : Int)))) (
                          cond (decide ((a0_4 ≥ (0 : Int)))) (
                            c = (decide ((a0_4 ≤ (4095 : Int))), ())) (
                            c = (false, ()))) (
                          c = (false, ()))) (
                        c = (false, ()))) (
                      c = (false, ()))) (
                    c = (false, ()))) (
                  c = (false, ()))) (
                c = (false, ()))) (
              c = (false, ()))) (
            cond (decide ((a0_0 ≥ (1 : Int)))) (
              cond (decide ((a0_0 ≤ (5 : Int)))) (
                optAll (ref02_Is.R a0_1) fun (c2 : (Bool × Unit)) =>
                cond ((c2).1) (
                  cond (decide ((a0_2 ≥ (0 : Int)))) (
                    cond (decide ((a0_2 ≤ (7 : Int)))) (
                      cond (decide ((a0_3 ≥ (0 : Int)))) (
                        cond (decide ((a0_3 ≤ (1023 : Int)))) (
                          cond (decide ((a0_4 ≥ (0 : Int)))) (
                            c = (decide ((a0_4 ≤ (4095 : Int))), ())) (
                            c = (false, ()))) (
                          c = (false, ()))) (
                        c = (false, ()))) (
                      c = (false, ()))) (
                    c = (false, ()))) (
                  c = (false, ()))) (
                c = (false, ()))) (
              c = (false, ()))))) (
        cond ((a0_0 == (4 : Int))) (
          cond (decide ((a0_0 ≥ (1 : Int)))) (
            cond (decide ((a0_0 ≤ (5 : Int)))) (
              optAll (ref02_Is.R a0_1) fun (c3 : (Bool × Unit)) =>
              cond ((c3).1) (
                cond (decide ((a0_2 ≥ (0 : Int)))) (
                  cond (decide ((a0_2 ≤ (65535 : Int)))) (
                    cond (decide ((a0_3 ≥ (0 : Int)))) (
                      cond (decide ((a0_3 ≤ (1023 : Int)))) (
                        cond (decide ((a0_4 ≥ (0 : Int)))) (
                          c = (decide ((a0_4 ≤ (4095 : Int))), ())) (
                          c = (false, ()))) (
                        c = (false, ()))) (
                      c = (false, ()))) (
                    c = (false, ()))) (
                  c = (false, ()))) (
                c = (false, ()))) (
              c = (false, ()))) (
            c = (false, ()))) (
          cond ((a0_0 == (5 : Int))) (
            cond (decide ((a0_0 ≥ (1 : Int)))) (
              cond (decide ((a0_0 ≤ (5 : Int)))) (
                optAll (ref02_Is.R a0_1) fun (c4 : (Bool × Unit)) =>
                cond ((c4).1) (
                  cond (decide ((a0_2 ≥ (0 : Int)))) (
                    cond (decide ((a0_2 ≤ (65535 : Int)))) (
                      cond (decide ((a0_3 ≥ (0 : Int)))) (
                        cond (decide ((a0_3 ≤ (1023 : Int)))) (
                          cond (decide ((a0_4 ≥ (0 : Int)))) (
                            c = (decide ((a0_4 ≤ (4095 : Int))), ())) (
                            c = (false, ()))) (
                          c = (false, ()))) (
                        c = (false, ()))) (
                      c = (false, ()))) (
                    c = (false, ()))) (
                  c = (false, ()))) (
                c = (false, ()))) (
              c = (false, ()))) (
            cond (decide ((a0_0 ≥ (1 : Int)))) (
              cond (decide ((a0_0 ≤ (5 : Int)))) (
                optAll (ref02_Is.R a0_1) fun (c5 : (Bool × Unit)) =>
                cond ((c5).1) (
                  cond (decide ((a0_2 ≥ (0 : Int)))) (
                    cond (decide ((a0_2 ≤ (0 : Int)))) (
                      cond (decide ((a0_3 ≥ (0 : Int)))) (
                        cond (decide ((a0_3 ≤ (1023 : Int)))) (
                          cond (decide ((a0_4 ≥ (0 : Int)))) (
                            c = (decide ((a0_4 ≤ (4095 : Int))), ())) (
                            c = (false, ()))) (
                          c = (false, ()))) (
                        c = (false, ()))) (
                      c = (false, ()))) (
                    c = (false, ()))) (
                  c = (false, ()))) (
                c = (false, ()))) (
              c = (false, ()))))))) : R a0_0 a0_1 a0_2 a0_3 a0_4 = some c := start_rule (n := 400) (lv := lv) (noSum_ok _) (by kernel_rfl) h
end ref03_Is
/-! garrison/garrisonref01.Put -/
namespace ref01_Put
def lv : Live := [((5, 1048576), [0, 1, 2, 3, 10], []), ((11, 2097152), [0, 1, 2, 3, 11, 12], [])]
abbrev H5 (x0 : Int) (x1 : Int) (x2 : Int) (x3 : Int) (x10 : Int) (c : (Int × (Int × Unit))) : Prop := HeadAns cfg 78 sh lv (bd cfg 78 [1, 1, 0, 1, 0, 0]) 1048576 [.inBlock 0, .code (bd cfg 78 [1, 1, 1])]
  [(AV.d (DV.v (Value.int IntKind.u64 x0))), (AV.d (DV.v (Value.int IntKind.i64 x1))), (AV.d (DV.v (Value.int IntKind.i64 x2))), (AV.d (DV.v (Value.int IntKind.u64 x3))), (AV.d (DV.v (Value.int IntKind.i64 x10)))] [] 1048576 c
abbrev H11 (x0 : Int) (x1 : Int) (x2 : Int) (x3 : Int) (x11 : Int) (x12 : Int) (c : (Int × (Int × Unit))) : Prop := HeadAns cfg 78 sh lv (bd cfg 78 [1, 1, 1, 1, 0, 1, 0, 0]) 2097152 [.inBlock 2, .code (bd cfg 78 [1, 1, 1, 1, 1])]
  [(AV.d (DV.v (Value.int IntKind.u64 x0))), (AV.d (DV.v (Value.int IntKind.i64 x1))), (AV.d (DV.v (Value.int IntKind.i64 x2))), (AV.d (DV.v (Value.int IntKind.u64 x3))), (AV.d (DV.v (Value.int IntKind.u64 x11))), (AV.d (DV.v (Value.int IntKind.i64 x12)))] [] 2097152 c
theorem start (a0 : Int) (a1 : Int) (a2 : Int) (a3 : Int) (c : (Int × (Int × Unit))) (h :
    optAll (ref01_Field.R a1 a2) fun (c0 : (Bool × Unit)) =>
    cond ((!(c0).1)) (
      c = ((0 : Int), ((2 : Int), ()))) (
      H5 a0 a1 a2 a3 a2 c)) : R a0 a1 a2 a3 = some c := start_rule (n := 400) (lv := lv) (noSum_ok _) (by kernel_rfl) h
theorem H5_step (x0 : Int) (x1 : Int) (x2 : Int) (x3 : Int) (x10 : Int) (c : (Int × (Int × Unit))) (h :
    cond (decide ((x10 < (64 : Int)))) (
      optAll (ref01_Bit.R x3 x10) fun (c1 : (Int × Unit)) =>
      cond (((c1).1 == (1 : Int))) (
        c = ((0 : Int), ((10 : Int), ()))) (
        H5 x0 x1 x2 x3 (IntKind.i64.wrap (x10 + (1 : Int))) c)) (
      H11 x0 x1 x2 x3 (0 : Int) (0 : Int) c)) : H5 x0 x1 x2 x3 x10 c := head_rule (n := 400) (noSum_ok _) (by kernel_rfl) h
theorem H11_step (x0 : Int) (x1 : Int) (x2 : Int) (x3 : Int) (x11 : Int) (x12 : Int) (c : (Int × (Int × Unit))) (h :
    cond (decide ((x12 < (64 : Int)))) (
      optAll (ref01_Bit.R x0 x12) fun (c2 : (Int × Unit)) =>
      cond (decide ((x12 ≥ x1))) (
        cond (decide ((x12 < (IntKind.i64.wrap (x1 + x2))))) (
          optAll (ref01_Bit.R x3 (IntKind.i64.wrap (x12 - x1))) fun (c3 : (Int × Unit)) =>
          needs ((0 : Int) ≤ x12) (
          H11 x0 x1 x2 x3 (IntKind.u64.wrap (x11 + (IntKind.u64.wrap ((c3).1 * ((2 : Int) ^ (min (Int.toNat x12) 64)))))) (IntKind.i64.wrap (x12 + (1 : Int))) c)) (
          needs ((0 : Int) ≤ x12) (
          H11 x0 x1 x2 x3 (IntKind.u64.wrap (x11 + (IntKind.u64.wrap ((c2).1 * ((2 : Int) ^ (min (Int.toNat x12) 64)))))) (IntKind.i64.wrap (x12 + (1 : Int))) c))) (
        needs ((0 : Int) ≤ x12) (
        H11 x0 x1 x2 x3 (IntKind.u64.wrap (x11 + (IntKind.u64.wrap ((c2).1 * ((2 : Int) ^ (min (Int.toNat x12) 64)))))) (IntKind.i64.wrap (x12 + (1 : Int))) c))) (
      c = (x11, ((0 : Int), ())))) : H11 x0 x1 x2 x3 x11 x12 c := head_rule (n := 400) (noSum_ok _) (by kernel_rfl) h
end ref01_Put
/-! garrison/garrisonref02.Is -/
namespace ref02_Is
def lv : Live := []
theorem start (a0 : Int) (c : (Bool × Unit)) (h :
    cond (decide ((a0 ≥ (0 : Int)))) (
      c = (decide ((a0 ≤ (15 : Int))), ())) (
      c = (false, ()))) : R a0 = some c := start_rule (n := 400) (lv := lv) (noSum_ok _) (by kernel_rfl) h
end ref02_Is
/-! garrison/garrisonref01.Field -/
namespace ref01_Field
def lv : Live := []
theorem start (a0 : Int) (a1 : Int) (c : (Bool × Unit)) (h :
    cond (decide ((a1 ≥ (1 : Int)))) (
      cond (decide ((a1 ≤ (64 : Int)))) (
        cond (decide ((a0 ≥ (0 : Int)))) (
          c = (decide ((a0 ≤ (IntKind.i64.wrap ((64 : Int) - a1)))), ())) (
          c = (false, ()))) (
        c = (false, ()))) (
      c = (false, ()))) : R a0 a1 = some c := start_rule (n := 400) (lv := lv) (noSum_ok _) (by kernel_rfl) h
end ref01_Field
/-! garrison/garrisonref01.Bit -/
namespace ref01_Bit
def lv : Live := []
theorem start (a0 : Int) (a1 : Int) (c : (Int × Unit)) (h :
    needs ((0 : Int) ≤ a1) (
    c = ((IntKind.u64.wrap (((BitVec.toNat ((BitVec.ofInt 64 (Int.fdiv a0 ((2 : Int) ^ (min (Int.toNat a1) 64)))) &&& (BitVec.ofInt 64 (1 : Int)))) : Nat) : Int)), ()))) : R a0 a1 = some c := start_rule (n := 400) (lv := lv) (noSum_ok _) (by kernel_rfl) h
end ref01_Bit
end Go.AI
