/-
  Own work: printed by Tell, a program of this work: what each function's body does over symbols.
-/
import Derived.Test.YtebkdpcgbnlfcaaToldAR
import Derived.KernelRfl
namespace Go.AI
open Go
set_option maxRecDepth 100000
set_option linter.unusedVariables false
set_option linter.unusedSimpArgs false
/-! garrison/garrisonlaw09.frame -/
namespace law09_frame
abbrev sh : List Sh := [.agg [.int .i64, .int .i64, .int .i64, .int .i64, .int .i64, .int .i64, .int .i64, .int .i64]]
noncomputable abbrev R : Option ((Int × (Int × (Int × (Int × (Int × (Int × (Int × (Int × Unit)))))))) × Unit) := retω cfg sh 20 []
end law09_frame
/-! garrison/garrisonlaw09.ArenaApart -/
namespace law09_ArenaApart
abbrev sh : List Sh := [.one (.bool)]
noncomputable abbrev R (a0 : Int) (a1 : Int) (a2 : List (List DV)) : Option (Bool × Unit) := retω cfg sh 6 [(AV.d (DV.v (Value.int IntKind.i64 a0))), (AV.d (DV.v (Value.int IntKind.i64 a1))), (AV.d (DV.lst 1 a2))]
end law09_ArenaApart
/-! garrison/garrisonlaw09.frame -/
namespace law09_frame
theorem closed : R = some ((3, (0, (0, (0, (0, (0, (-1, (0, ())))))))), ()) := ret_closed (n := 4000) (v := .agg [.d (.v (.int .i64 3)), .d (.v (.int .i64 0)), .d (.v (.int .i64 0)), .d (.v (.int .i64 0)), .d (.v (.int .i64 0)), .d (.v (.int .i64 0)), .d (.v (.int .i64 (-1))), .d (.v (.int .i64 0))]) (by kernel_rfl) (by kernel_rfl)
end law09_frame
/-! garrison/garrisonlaw09.ArenaApart -/
namespace law09_ArenaApart
def lv : Live := [((10, 1048576), [1, 2, 7, 9, 10, 11], [603, 9, 10]), ((29, 2097152), [1, 2, 7, 9, 10, 11, 12, 13, 22], [603, 9, 10, 1049024]), ((36, 3145728), [1, 2, 7, 9, 10, 11, 12, 13, 23, 24], [603, 9, 10, 1049024, 2097296])]
abbrev H10 (x1 : Int) (x2 : List (List DV)) (b9 : List (List DV)) (b10 : List (List DV)) (x11 : Int) (b603 : List (List DV)) (b603_1 : List (List DV)) (c : (Bool × Unit)) : Prop := HeadAns cfg 6 sh lv (bd cfg 6 [1, 1, 1, 1, 1, 1, 0, 1, 0, 0]) 1048576 [.inBlock 0, .code (bd cfg 6 [1, 1, 1, 1, 1, 1, 1])]
  [(AV.d (DV.v (Value.int IntKind.i64 x1))), (AV.d (DV.lst 1 x2)), (AV.ptr 603 0 0 0), (AV.ref 9 0 0 (List.length b9)), (AV.ref 10 0 0 (List.length b10)), (AV.d (DV.v (Value.int IntKind.i64 x11)))] [(Option.some (VBlk.cell 2 0 [(AV.d (DV.lst 8 b603)), (AV.d (DV.lst 1 b603_1))])), (Option.some (VBlk.drow 8 0 b9)), (Option.some (VBlk.drow 1 0 b10))] 1048576 c
abbrev H29 (x1 : Int) (x2 : List (List DV)) (b9 : List (List DV)) (b10 : List (List DV)) (x11 : Int) (x13 : Int) (x22 : Int) (b603 : List (List DV)) (b603_1 : List (List DV)) (b1049024 : List (List DV)) (b1049024_1 : List (List DV)) (c : (Bool × Unit)) : Prop := HeadAns cfg 6 sh lv (bd cfg 6 [1, 1, 1, 1, 1, 1, 0, 1, 0, 0, 1, 0, 0, 1, 1, 1, 1, 1, 0, 1, 0, 0]) 2097152 [.inBlock 2, .code (bd cfg 6 [1, 1, 1, 1, 1, 1, 0, 1, 0, 0, 1, 0, 0, 1, 1, 1, 1, 1, 1]), .inBlock 1, .code (bd cfg 6 [1, 1, 1, 1, 1, 1, 0, 1, 0, 0, 1, 1]), .inLoop (bd cfg 6 [1, 1, 1, 1, 1, 1, 0, 1, 0, 0]) 1048576, .inBlock 0, .code (bd cfg 6 [1, 1, 1, 1, 1, 1, 1])]
  [(AV.d (DV.v (Value.int IntKind.i64 x1))), (AV.d (DV.lst 1 x2)), (AV.ptr 603 0 0 0), (AV.ref 9 0 0 (List.length b9)), (AV.ref 10 0 0 (List.length b10)), (AV.d (DV.v (Value.int IntKind.i64 x11))), (AV.ptr 1049024 0 0 0), (AV.d (DV.v (Value.int IntKind.i64 x13))), (AV.d (DV.v (Value.int IntKind.i64 x22)))] [(Option.some (VBlk.cell 2 0 [(AV.d (DV.lst 8 b603)), (AV.d (DV.lst 1 b603_1))])), (Option.some (VBlk.drow 8 0 b9)), (Option.some (VBlk.drow 1 0 b10)), (Option.some (VBlk.cell 2 0 [(AV.d (DV.lst 8 b1049024)), (AV.d (DV.lst 1 b1049024_1))]))] 2097152 c
abbrev H36 (x1 : Int) (x2 : List (List DV)) (b9 : List (List DV)) (b10 : List (List DV)) (x11 : Int) (x13 : Int) (x24 : Int) (b603 : List (List DV)) (b603_1 : List (List DV)) (b1049024 : List (List DV)) (b1049024_1 : List (List DV)) (b2097296 : Int) (b2097296_1 : Int) (b2097296_2 : Int) (b2097296_3 : Int) (b2097296_4 : Int) (b2097296_5 : Int) (b2097296_6 : Int) (b2097296_7 : Int) (c : (Bool × Unit)) : Prop := HeadAns cfg 6 sh lv (bd cfg 6 [1, 1, 1, 1, 1, 1, 0, 1, 0, 0, 1, 0, 0, 1, 1, 1, 1, 1, 1, 1, 1, 0, 1, 0, 0]) 3145728 [.inBlock 4, .code (bd cfg 6 [1, 1, 1, 1, 1, 1, 0, 1, 0, 0, 1, 0, 0, 1, 1, 1, 1, 1, 1, 1, 1, 1]), .inBlock 1, .code (bd cfg 6 [1, 1, 1, 1, 1, 1, 0, 1, 0, 0, 1, 1]), .inLoop (bd cfg 6 [1, 1, 1, 1, 1, 1, 0, 1, 0, 0]) 1048576, .inBlock 0, .code (bd cfg 6 [1, 1, 1, 1, 1, 1, 1])]
  [(AV.d (DV.v (Value.int IntKind.i64 x1))), (AV.d (DV.lst 1 x2)), (AV.ptr 603 0 0 0), (AV.ref 9 0 0 (List.length b9)), (AV.ref 10 0 0 (List.length b10)), (AV.d (DV.v (Value.int IntKind.i64 x11))), (AV.ptr 1049024 0 0 0), (AV.d (DV.v (Value.int IntKind.i64 x13))), (AV.ptr 2097296 0 0 0), (AV.d (DV.v (Value.int IntKind.i64 x24)))] [(Option.some (VBlk.cell 2 0 [(AV.d (DV.lst 8 b603)), (AV.d (DV.lst 1 b603_1))])), (Option.some (VBlk.drow 8 0 b9)), (Option.some (VBlk.drow 1 0 b10)), (Option.some (VBlk.cell 2 0 [(AV.d (DV.lst 8 b1049024)), (AV.d (DV.lst 1 b1049024_1))])), (Option.some (VBlk.cell 8 0 [(AV.d (DV.v (Value.int IntKind.i64 b2097296))), (AV.d (DV.v (Value.int IntKind.i64 b2097296_1))), (AV.d (DV.v (Value.int IntKind.i64 b2097296_2))), (AV.d (DV.v (Value.int IntKind.i64 b2097296_3))), (AV.d (DV.v (Value.int IntKind.i64 b2097296_4))), (AV.d (DV.v (Value.int IntKind.i64 b2097296_5))), (AV.d (DV.v (Value.int IntKind.i64 b2097296_6))), (AV.d (DV.v (Value.int IntKind.i64 b2097296_7)))]))] 3145728 c
theorem start (a0 : Int) (a1 : Int) (a2 : List (List DV)) (c : (Bool × Unit)) (h :
    cond (decide ((a0 < (1 : Int)))) (
      optAll (law09_live.R) fun (c0 : (Bool × Unit)) =>
      c = ((c0).1, ())) (
      cond (decide ((a0 > (64 : Int)))) (
        optAll (law09_live.R) fun (c1 : (Bool × Unit)) =>
        c = ((c1).1, ())) (
        cond (decide ((a1 < (1 : Int)))) (
          optAll (law09_live.R) fun (c2 : (Bool × Unit)) =>
          c = ((c2).1, ())) (
          cond (decide ((a1 > (64 : Int)))) (
            optAll (law09_live.R) fun (c3 : (Bool × Unit)) =>
            c = ((c3).1, ())) (
            cond (decide (((((a2).length : Nat) : Int) > (100 : Int)))) (
              optAll (law09_live.R) fun (c4 : (Bool × Unit)) =>
              c = ((c4).1, ())) (
              optAll (arena_New.R a0 a1) fun (c5 : ((List (List DV) × (List (List DV) × Unit)) × (Int × Unit))) =>
              optAll (law09_num.R ((c5).2).1) fun (c6 : (Int × Unit)) =>
              cond (((c6).1 != (0 : Int))) (
                c = (false, ())) (
                H10 a1 a2 [] [] (0 : Int) ((c5).1).1 (((c5).1).2).1 c))))))) : R a0 a1 a2 = some c := start_rule (n := 400) (lv := lv) (noSum_ok _) (by kernel_rfl) h
theorem H10_step (x1 : Int) (x2 : List (List DV)) (b9 : List (List DV)) (b10 : List (List DV)) (x11 : Int) (b603 : List (List DV)) (b603_1 : List (List DV)) (c : (Bool × Unit)) (h :
    cond (decide ((x11 < (((x2).length : Nat) : Int)))) (
      needs ((0 : Int) ≤ x11) (
      optAll ((x2)[(Int.toNat x11)]?) fun (r7 : List DV) =>
      optAll ((dInt IntKind.i64 r7 0)) fun (z8 : Int) =>
      cond (decide ((z8 < (0 : Int)))) (
        H10 x1 x2 b9 b10 (IntKind.i64.wrap (x11 + (1 : Int))) b603 b603_1 c) (
        needs ((0 : Int) ≤ x11) (
        optAll ((x2)[(Int.toNat x11)]?) fun (r9 : List DV) =>
        optAll ((dInt IntKind.i64 r9 0)) fun (z10 : Int) =>
        cond (decide ((z10 ≥ x1))) (
          H10 x1 x2 b9 b10 (IntKind.i64.wrap (x11 + (1 : Int))) b603 b603_1 c) (
          needs ((0 : Int) ≤ x11) (
          optAll ((x2)[(Int.toNat x11)]?) fun (r11 : List DV) =>
          optAll ((dInt IntKind.i64 r11 0)) fun (z12 : Int) =>
          optAll (law09_frame.R) fun (c13 : ((Int × (Int × (Int × (Int × (Int × (Int × (Int × (Int × Unit)))))))) × Unit)) =>
          optAll (arena_Take.R b603 b603_1 z12 ((c13).1).1 (((c13).1).2).1 ((((c13).1).2).2).1 (((((c13).1).2).2).2).1 ((((((c13).1).2).2).2).2).1 (((((((c13).1).2).2).2).2).2).1 ((((((((c13).1).2).2).2).2).2).2).1 (((((((((c13).1).2).2).2).2).2).2).2).1) fun (c14 : ((List (List DV) × (List (List DV) × Unit)) × (Int × (Int × Unit)))) =>
          optAll (law09_num.R (((c14).2).2).1) fun (c15 : (Int × Unit)) =>
          cond (((c15).1 == (5 : Int))) (
            cond (decide (((((b10).length : Nat) : Int) > (0 : Int)))) (
              needs (((0 : Int) ≤ (0 : Int)) ∧ ((0 : Int) < (((b10).length : Nat) : Int))) (
              optAll ((b10)[0]?) fun (r16 : List DV) =>
              optAll ((dInt IntKind.i64 r16 0)) fun (z17 : Int) =>
              optAll (arena_Refer.R b603 b603_1 z17 (-1 : Int)) fun (c18 : ((List (List DV) × (List (List DV) × Unit)) × (Int × Unit))) =>
              optAll (arena_Drop.R ((c18).1).1 (((c18).1).2).1 z17) fun (c19 : ((List (List DV) × (List (List DV) × Unit)) × (Int × Unit))) =>
              needs ((0 : Int) ≤ x11) (
              optAll ((x2)[(Int.toNat x11)]?) fun (r20 : List DV) =>
              optAll ((dInt IntKind.i64 r20 0)) fun (z21 : Int) =>
              optAll (arena_Give.R ((c19).1).1 (((c19).1).2).1 z21 z17) fun (c22 : ((List (List DV) × (List (List DV) × Unit)) × (Int × Unit))) =>
              optAll (law09_num.R ((c18).2).1) fun (c23 : (Int × Unit)) =>
              optAll (law09_num.R ((c19).2).1) fun (c24 : (Int × Unit)) =>
              optAll (law09_num.R ((c22).2).1) fun (c25 : (Int × Unit)) =>
              cond (((IntKind.i64.wrap ((IntKind.i64.wrap ((c23).1 + (c24).1)) + (c25).1)) != (0 : Int))) (
                c = (false, ())) (
                needs (((0 : Int) ≤ (1 : Int)) ∧ (((1 : Int) ≤ (((b10).length : Nat) : Int)) ∧ ((((b10).length : Nat) : Int) ≤ ((((b10).length - 0) : Nat) : Int)))) (
                needs ((((((((b10).drop (1))).take (((Int.toNat (((b10).length : Nat) : Int)) - 1)))).length * 8) ≤ 140737488355328) ∧ (((((((b10).drop (1))).take (((Int.toNat (((b10).length : Nat) : Int)) - 1)))).length * 1) ≤ 140737488355328)) (
                needs ((((((b10).drop (1))).take (((Int.toNat (((b10).length : Nat) : Int)) - 1)))).length = (((((b10).drop (1))).take (((Int.toNat (((b10).length : Nat) : Int)) - 1)))).length) (
                H10 x1 x2 b9 ((((b10).drop (1))).take (((Int.toNat (((b10).length : Nat) : Int)) - 1))) (IntKind.i64.wrap (x11 + (1 : Int))) ((c22).1).1 (((c22).1).2).1 c))))))) (
              optAll (law09_num.R (((c14).2).2).1) fun (c26 : (Int × Unit)) =>
              cond (((c26).1 != (0 : Int))) (
                optAll (law09_num.R (((c14).2).2).1) fun (c27 : (Int × Unit)) =>
                cond (((c27).1 != (5 : Int))) (
                  c = (false, ())) (
                  H10 x1 x2 b9 b10 (IntKind.i64.wrap (x11 + (1 : Int))) b603 b603_1 c)) (
                cond (decide ((((c14).2).1 < (0 : Int)))) (
                  c = (false, ())) (
                  cond (decide ((((c14).2).1 ≥ (((((c14).1).1).length : Nat) : Int)))) (
                    c = (false, ())) (
                    H29 x1 x2 b9 b10 x11 ((c14).2).1 (0 : Int) b603 b603_1 ((c14).1).1 (((c14).1).2).1 c))))) (
            optAll (law09_num.R (((c14).2).2).1) fun (c28 : (Int × Unit)) =>
            cond (((c28).1 != (0 : Int))) (
              optAll (law09_num.R (((c14).2).2).1) fun (c29 : (Int × Unit)) =>
              cond (((c29).1 != (5 : Int))) (
                c = (false, ())) (
                H10 x1 x2 b9 b10 (IntKind.i64.wrap (x11 + (1 : Int))) b603 b603_1 c)) (
              cond (decide ((((c14).2).1 < (0 : Int)))) (
                c = (false, ())) (
                cond (decide ((((c14).2).1 ≥ (((((c14).1).1).length : Nat) : Int)))) (
                  c = (false, ())) (
                  H29 x1 x2 b9 b10 x11 ((c14).2).1 (0 : Int) b603 b603_1 ((c14).1).1 (((c14).1).2).1 c)))))))))) (
      optAll (law09_live.R) fun (c30 : (Bool × Unit)) =>
      c = ((c30).1, ()))) : H10 x1 x2 b9 b10 x11 b603 b603_1 c := head_rule (n := 400) (noSum_ok _) (by kernel_rfl) h
theorem H29_step (x1 : Int) (x2 : List (List DV)) (b9 : List (List DV)) (b10 : List (List DV)) (x11 : Int) (x13 : Int) (x22 : Int) (b603 : List (List DV)) (b603_1 : List (List DV)) (b1049024 : List (List DV)) (b1049024_1 : List (List DV)) (c : (Bool × Unit)) (h :
    cond (decide ((x22 < (((b10).length : Nat) : Int)))) (
      needs (((0 : Int) ≤ x22) ∧ (x22 < (((b10).length : Nat) : Int))) (
      optAll ((b10)[(0 + (Int.toNat x22))]?) fun (r31 : List DV) =>
      optAll ((dInt IntKind.i64 r31 0)) fun (z32 : Int) =>
      cond ((z32 == x13)) (
        c = (false, ())) (
        H29 x1 x2 b9 b10 x11 x13 (IntKind.i64.wrap (x22 + (1 : Int))) b603 b603_1 b1049024 b1049024_1 c))) (
      needs ((0 : Int) ≤ x13) (
      optAll ((b1049024)[(Int.toNat x13)]?) fun (r33 : List DV) =>
      optAll ((dInt IntKind.i64 r33 0)) fun (z34 : Int) =>
      optAll ((dInt IntKind.i64 r33 1)) fun (z35 : Int) =>
      optAll ((dInt IntKind.i64 r33 2)) fun (z36 : Int) =>
      optAll ((dInt IntKind.i64 r33 3)) fun (z37 : Int) =>
      optAll ((dInt IntKind.i64 r33 4)) fun (z38 : Int) =>
      optAll ((dInt IntKind.i64 r33 5)) fun (z39 : Int) =>
      optAll ((dInt IntKind.i64 r33 6)) fun (z40 : Int) =>
      optAll ((dInt IntKind.i64 r33 7)) fun (z41 : Int) =>
      H36 x1 x2 b9 b10 x11 x13 (0 : Int) b603 b603_1 b1049024 b1049024_1 z34 z35 z36 x13 z38 z39 z40 z41 c))) : H29 x1 x2 b9 b10 x11 x13 x22 b603 b603_1 b1049024 b1049024_1 c := head_rule (n := 400) (noSum_ok _) (by kernel_rfl) h
theorem H36_step (x1 : Int) (x2 : List (List DV)) (b9 : List (List DV)) (b10 : List (List DV)) (x11 : Int) (x13 : Int) (x24 : Int) (b603 : List (List DV)) (b603_1 : List (List DV)) (b1049024 : List (List DV)) (b1049024_1 : List (List DV)) (b2097296 : Int) (b2097296_1 : Int) (b2097296_2 : Int) (b2097296_3 : Int) (b2097296_4 : Int) (b2097296_5 : Int) (b2097296_6 : Int) (b2097296_7 : Int) (c : (Bool × Unit)) (h :
    cond (decide ((x24 < (((b9).length : Nat) : Int)))) (
      needs (((0 : Int) ≤ x24) ∧ (x24 < (((b9).length : Nat) : Int))) (
      optAll ((b9)[(0 + (Int.toNat x24))]?) fun (r42 : List DV) =>
      optAll ((dInt IntKind.i64 r42 0)) fun (z43 : Int) =>
      optAll ((dInt IntKind.i64 r42 1)) fun (z44 : Int) =>
      optAll ((dInt IntKind.i64 r42 2)) fun (z45 : Int) =>
      optAll ((dInt IntKind.i64 r42 3)) fun (z46 : Int) =>
      optAll ((dInt IntKind.i64 r42 4)) fun (z47 : Int) =>
      optAll ((dInt IntKind.i64 r42 5)) fun (z48 : Int) =>
      optAll ((dInt IntKind.i64 r42 6)) fun (z49 : Int) =>
      optAll ((dInt IntKind.i64 r42 7)) fun (z50 : Int) =>
      cond (((z43 == b2097296) && ((z44 == b2097296_1) && ((z45 == b2097296_2) && ((z46 == b2097296_3) && ((z47 == b2097296_4) && ((z48 == b2097296_5) && ((z49 == b2097296_6) && ((z50 == b2097296_7) && true))))))))) (
        c = (false, ())) (
        H36 x1 x2 b9 b10 x11 x13 (IntKind.i64.wrap (x24 + (1 : Int))) b603 b603_1 b1049024 b1049024_1 b2097296 b2097296_1 b2097296_2 b2097296_3 b2097296_4 b2097296_5 b2097296_6 b2097296_7 c))) (
      needs ((b10).length = (b10).length) (
      needs (((((b10 ++ (([[(DV.v (Value.int IntKind.i64 x13))]]).take (1)))).length * 8) ≤ 140737488355328) ∧ ((((b10 ++ (([[(DV.v (Value.int IntKind.i64 x13))]]).take (1)))).length * 1) ≤ 140737488355328)) (
      needs ((b9).length = (b9).length) (
      needs (((((b9 ++ (([[(DV.v (Value.int IntKind.i64 b2097296)), (DV.v (Value.int IntKind.i64 b2097296_1)), (DV.v (Value.int IntKind.i64 b2097296_2)), (DV.v (Value.int IntKind.i64 b2097296_3)), (DV.v (Value.int IntKind.i64 b2097296_4)), (DV.v (Value.int IntKind.i64 b2097296_5)), (DV.v (Value.int IntKind.i64 b2097296_6)), (DV.v (Value.int IntKind.i64 b2097296_7))]]).take (1)))).length * 64) ≤ 140737488355328) ∧ ((((b9 ++ (([[(DV.v (Value.int IntKind.i64 b2097296)), (DV.v (Value.int IntKind.i64 b2097296_1)), (DV.v (Value.int IntKind.i64 b2097296_2)), (DV.v (Value.int IntKind.i64 b2097296_3)), (DV.v (Value.int IntKind.i64 b2097296_4)), (DV.v (Value.int IntKind.i64 b2097296_5)), (DV.v (Value.int IntKind.i64 b2097296_6)), (DV.v (Value.int IntKind.i64 b2097296_7))]]).take (1)))).length * 8) ≤ 140737488355328)) (
      H10 x1 x2 (b9 ++ (([[(DV.v (Value.int IntKind.i64 b2097296)), (DV.v (Value.int IntKind.i64 b2097296_1)), (DV.v (Value.int IntKind.i64 b2097296_2)), (DV.v (Value.int IntKind.i64 b2097296_3)), (DV.v (Value.int IntKind.i64 b2097296_4)), (DV.v (Value.int IntKind.i64 b2097296_5)), (DV.v (Value.int IntKind.i64 b2097296_6)), (DV.v (Value.int IntKind.i64 b2097296_7))]]).take (1))) (b10 ++ (([[(DV.v (Value.int IntKind.i64 x13))]]).take (1))) (IntKind.i64.wrap (x11 + (1 : Int))) b1049024 b1049024_1 c)))))) : H36 x1 x2 b9 b10 x11 x13 x24 b603 b603_1 b1049024 b1049024_1 b2097296 b2097296_1 b2097296_2 b2097296_3 b2097296_4 b2097296_5 b2097296_6 b2097296_7 c := head_rule (n := 400) (noSum_ok _) (by kernel_rfl) h
end law09_ArenaApart
end Go.AI
