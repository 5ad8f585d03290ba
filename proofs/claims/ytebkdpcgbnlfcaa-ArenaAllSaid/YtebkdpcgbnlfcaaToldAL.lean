/-
  Own work: printed by Tell, a program of this work: what each function's body does over symbols.
-/
import Derived.Test.YtebkdpcgbnlfcaaToldAS
import Derived.Test.YtebkdpcgbnlfcaaToldAR
import Derived.KernelRfl
namespace Go.AI
open Go
set_option maxRecDepth 100000
set_option linter.unusedVariables false
set_option linter.unusedSimpArgs false
/-! garrison/garrisonlaw09.ArenaAll -/
namespace law09_ArenaAll
abbrev sh : List Sh := [.one (.bool)]
noncomputable abbrev R (a0 : Int) (a1 : Int) (a2_0 : Int) (a2_1 : Int) (a2_2 : Int) (a2_3 : Int) (a2_4 : Int) (a2_5 : Int) (a2_6 : Int) (a2_7 : Int) : Option (Bool × Unit) := retω cfg sh 7 [(AV.d (DV.v (Value.int IntKind.i64 a0))), (AV.d (DV.v (Value.int IntKind.i64 a1))), (AV.agg [(AV.d (DV.v (Value.int IntKind.i64 a2_0))), (AV.d (DV.v (Value.int IntKind.i64 a2_1))), (AV.d (DV.v (Value.int IntKind.i64 a2_2))), (AV.d (DV.v (Value.int IntKind.i64 a2_3))), (AV.d (DV.v (Value.int IntKind.i64 a2_4))), (AV.d (DV.v (Value.int IntKind.i64 a2_5))), (AV.d (DV.v (Value.int IntKind.i64 a2_6))), (AV.d (DV.v (Value.int IntKind.i64 a2_7)))])]
end law09_ArenaAll
/-! garrison/garrisonlaw09.ArenaAll -/
namespace law09_ArenaAll
def lv : Live := [((9, 1048576), [0, 1, 5, 7, 9, 10], [105, 617]), ((12, 2097152), [0, 1, 5, 7, 9, 10, 11], [105, 617])]
abbrev H9 (x0 : Int) (x1 : Int) (x9 : Int) (x10 : Int) (b105 : Int) (b105_1 : Int) (b105_2 : Int) (b105_3 : Int) (b105_4 : Int) (b105_5 : Int) (b105_6 : Int) (b105_7 : Int) (b617 : List (List DV)) (b617_1 : List (List DV)) (c : (Bool × Unit)) : Prop := HeadAns cfg 7 sh lv (bd cfg 7 [1, 1, 1, 1, 1, 0, 1, 0, 0]) 1048576 [.inBlock 0, .code (bd cfg 7 [1, 1, 1, 1, 1, 1])]
  [(AV.d (DV.v (Value.int IntKind.i64 x0))), (AV.d (DV.v (Value.int IntKind.i64 x1))), (AV.ptr 105 0 0 0), (AV.ptr 617 0 0 0), (AV.d (DV.v (Value.int IntKind.i64 x9))), (AV.d (DV.v (Value.int IntKind.i64 x10)))] [(Option.some (VBlk.cell 8 0 [(AV.d (DV.v (Value.int IntKind.i64 b105))), (AV.d (DV.v (Value.int IntKind.i64 b105_1))), (AV.d (DV.v (Value.int IntKind.i64 b105_2))), (AV.d (DV.v (Value.int IntKind.i64 b105_3))), (AV.d (DV.v (Value.int IntKind.i64 b105_4))), (AV.d (DV.v (Value.int IntKind.i64 b105_5))), (AV.d (DV.v (Value.int IntKind.i64 b105_6))), (AV.d (DV.v (Value.int IntKind.i64 b105_7)))])), (Option.some (VBlk.cell 2 0 [(AV.d (DV.lst 8 b617)), (AV.d (DV.lst 1 b617_1))]))] 1048576 c
abbrev H12 (x0 : Int) (x1 : Int) (x9 : Int) (x10 : Int) (x11 : Int) (b105 : Int) (b105_1 : Int) (b105_2 : Int) (b105_3 : Int) (b105_4 : Int) (b105_5 : Int) (b105_6 : Int) (b105_7 : Int) (b617 : List (List DV)) (b617_1 : List (List DV)) (c : (Bool × Unit)) : Prop := HeadAns cfg 7 sh lv (bd cfg 7 [1, 1, 1, 1, 1, 0, 1, 0, 0, 1, 0, 0, 1, 0, 0]) 2097152 [.inBlock 2, .inBlock 1, .code (bd cfg 7 [1, 1, 1, 1, 1, 0, 1, 0, 0, 1, 1]), .inLoop (bd cfg 7 [1, 1, 1, 1, 1, 0, 1, 0, 0]) 1048576, .inBlock 0, .code (bd cfg 7 [1, 1, 1, 1, 1, 1])]
  [(AV.d (DV.v (Value.int IntKind.i64 x0))), (AV.d (DV.v (Value.int IntKind.i64 x1))), (AV.ptr 105 0 0 0), (AV.ptr 617 0 0 0), (AV.d (DV.v (Value.int IntKind.i64 x9))), (AV.d (DV.v (Value.int IntKind.i64 x10))), (AV.d (DV.v (Value.int IntKind.i64 x11)))] [(Option.some (VBlk.cell 8 0 [(AV.d (DV.v (Value.int IntKind.i64 b105))), (AV.d (DV.v (Value.int IntKind.i64 b105_1))), (AV.d (DV.v (Value.int IntKind.i64 b105_2))), (AV.d (DV.v (Value.int IntKind.i64 b105_3))), (AV.d (DV.v (Value.int IntKind.i64 b105_4))), (AV.d (DV.v (Value.int IntKind.i64 b105_5))), (AV.d (DV.v (Value.int IntKind.i64 b105_6))), (AV.d (DV.v (Value.int IntKind.i64 b105_7)))])), (Option.some (VBlk.cell 2 0 [(AV.d (DV.lst 8 b617)), (AV.d (DV.lst 1 b617_1))]))] 2097152 c
theorem start (a0 : Int) (a1 : Int) (a2_0 : Int) (a2_1 : Int) (a2_2 : Int) (a2_3 : Int) (a2_4 : Int) (a2_5 : Int) (a2_6 : Int) (a2_7 : Int) (c : (Bool × Unit)) (h :
    cond (decide ((a0 < (1 : Int)))) (
      optAll (law09_live.R) fun (c0 : (Bool × Unit)) =>
      c = ((c0).1, ())) (
      cond (decide ((a0 > (64 : Int)))) (
        optAll (law09_live.R) fun (c1 : (Bool × Unit)) =>
        c = ((c1).1, ())) (
        cond (decide ((a1 < (1 : Int)))) (
          optAll (law09_live.R) fun (c2 : (Bool × Unit)) =>
          c = ((c2).1, ())) (
          cond (decide ((a1 > (64 : Int)))) (
            optAll (law09_live.R) fun (c3 : (Bool × Unit)) =>
            c = ((c3).1, ())) (
            cond (decide ((a2_0 < (1 : Int)))) (
              optAll (law09_live.R) fun (c4 : (Bool × Unit)) =>
              c = ((c4).1, ())) (
              cond (decide ((a2_0 > (5 : Int)))) (
                optAll (law09_live.R) fun (c5 : (Bool × Unit)) =>
                c = ((c5).1, ())) (
                optAll (arena_New.R a0 a1) fun (c6 : ((List (List DV) × (List (List DV) × Unit)) × (Int × Unit))) =>
                optAll (law09_num.R ((c6).2).1) fun (c7 : (Int × Unit)) =>
                cond (((c7).1 != (0 : Int))) (
                  c = (false, ())) (
                  H9 a0 a1 (0 : Int) (0 : Int) a2_0 a2_1 a2_2 a2_3 a2_4 a2_5 a2_6 a2_7 ((c6).1).1 (((c6).1).2).1 c)))))))) : R a0 a1 a2_0 a2_1 a2_2 a2_3 a2_4 a2_5 a2_6 a2_7 = some c := start_rule (n := 400) (lv := lv) (noSum_ok _) (by kernel_rfl) h
theorem H9_step (x0 : Int) (x1 : Int) (x9 : Int) (x10 : Int) (b105 : Int) (b105_1 : Int) (b105_2 : Int) (b105_3 : Int) (b105_4 : Int) (b105_5 : Int) (b105_6 : Int) (b105_7 : Int) (b617 : List (List DV)) (b617_1 : List (List DV)) (c : (Bool × Unit)) (h :
    cond (decide ((x10 < x1))) (
      H12 x0 x1 x9 x10 (0 : Int) b105 b105_1 b105_2 b105_3 b105_4 b105_5 b105_6 b105_7 b617 b617_1 c) (
      cond ((x9 == x0)) (
        optAll (law09_live.R) fun (c8 : (Bool × Unit)) =>
        c = ((c8).1, ())) (
        c = (false, ())))) : H9 x0 x1 x9 x10 b105 b105_1 b105_2 b105_3 b105_4 b105_5 b105_6 b105_7 b617 b617_1 c := head_rule (n := 400) (noSum_ok _) (by kernel_rfl) h
theorem H12_step (x0 : Int) (x1 : Int) (x9 : Int) (x10 : Int) (x11 : Int) (b105 : Int) (b105_1 : Int) (b105_2 : Int) (b105_3 : Int) (b105_4 : Int) (b105_5 : Int) (b105_6 : Int) (b105_7 : Int) (b617 : List (List DV)) (b617_1 : List (List DV)) (c : (Bool × Unit)) (h :
    cond (decide ((x11 ≤ x0))) (
      optAll (arena_Take.R b617 b617_1 x10 b105 b105_1 b105_2 b105_3 b105_4 b105_5 b105_6 b105_7) fun (c9 : ((List (List DV) × (List (List DV) × Unit)) × (Int × (Int × Unit)))) =>
      optAll (law09_num.R (((c9).2).2).1) fun (c10 : (Int × Unit)) =>
      cond (((c10).1 != (0 : Int))) (
        optAll (law09_num.R (((c9).2).2).1) fun (c11 : (Int × Unit)) =>
        cond (((c11).1 != (5 : Int))) (
          c = (false, ())) (
          optAll (ref09_Same.R b617 b617_1 ((c9).1).1 (((c9).1).2).1) fun (c12 : (Bool × Unit)) =>
          cond ((!(c12).1)) (
            c = (false, ())) (
            H9 x0 x1 x9 (IntKind.i64.wrap (x10 + (1 : Int))) b105 b105_1 b105_2 b105_3 b105_4 b105_5 b105_6 b105_7 b617 b617_1 c))) (
        needs (x1 ≠ (0 : Int)) (
        cond (((Int.tmod ((c9).2).1 x1) != x10)) (
          c = (false, ())) (
          optAll (arena_State.R b617 b617_1 ((c9).2).1) fun (c13 : (ByteArray × Unit)) =>
          cond ((!((ByteArray.toList (c13).1) == (ByteArray.toList (ByteArray.mk #[102, 114, 101, 101]))))) (
            c = (false, ())) (
            optAll (arena_State.R ((c9).1).1 (((c9).1).2).1 ((c9).2).1) fun (c14 : (ByteArray × Unit)) =>
            cond ((!((ByteArray.toList (c14).1) == (ByteArray.toList (ByteArray.mk #[108, 105, 118, 101]))))) (
              c = (false, ())) (
              H12 x0 x1 (IntKind.i64.wrap (x9 + (1 : Int))) x10 (IntKind.i64.wrap (x11 + (1 : Int))) b105 b105_1 b105_2 b105_3 b105_4 b105_5 b105_6 b105_7 ((c9).1).1 (((c9).1).2).1 c)))))) (
      H9 x0 x1 x9 (IntKind.i64.wrap (x10 + (1 : Int))) b105 b105_1 b105_2 b105_3 b105_4 b105_5 b105_6 b105_7 b617 b617_1 c)) : H12 x0 x1 x9 x10 x11 b105 b105_1 b105_2 b105_3 b105_4 b105_5 b105_6 b105_7 b617 b617_1 c := head_rule (n := 400) (noSum_ok _) (by kernel_rfl) h
end law09_ArenaAll
end Go.AI
