/-
  Own work: printed by Tell, a program of this work: what each function's body does over symbols.
-/
import Derived.Test.YtjmpflgdmnoinaaToldD
import Derived.KernelRfl
namespace Go.AI
open Go
set_option maxRecDepth 100000
set_option linter.unusedVariables false
set_option linter.unusedSimpArgs false
/-! garrison/links.Insert -/
namespace links_Insert
def lv : Live := []
theorem start (a0 : List (List DV)) (a1_0 : Int) (a1_1 : Int) (a2_0 : Int) (a2_1 : Int) (c : (List (List DV) × Unit)) (h :
    optAll (links_are.R a0 (([[(DV.v (Value.int IntKind.i64 a1_0)), (DV.v (Value.int IntKind.i64 a1_1))], [(DV.v (Value.int IntKind.i64 a2_0)), (DV.v (Value.int IntKind.i64 a2_1))]]).take (2))) fun (c0 : (Bool × Unit)) =>
    cond ((!(c0).1)) (
      c = ((([]).take (0)), ())) (
      optAll (links_at.R a0 a1_0 a1_1 (4 : Int)) fun (c1 : (Int × Unit)) =>
      cond (decide (((c1).1 < (9223372036854775807 : Int)))) (
        optAll (links_code.R a1_0 a1_1) fun (c2 : (Int × Unit)) =>
        optAll (layout_Slot.R a2_0 a2_1 (2 : Int)) fun (c3 : (Int × Unit)) =>
        optAll (links_at.R a0 a1_0 a1_1 (3 : Int)) fun (c4 : (Int × Unit)) =>
        optAll (layout_Slot.R a2_0 a2_1 (3 : Int)) fun (c5 : (Int × Unit)) =>
        optAll (layout_Slot.R a2_0 a2_1 (4 : Int)) fun (c6 : (Int × Unit)) =>
        optAll (layout_Slot.R a2_0 a2_1 (5 : Int)) fun (c7 : (Int × Unit)) =>
        optAll (links_code.R a2_0 a2_1) fun (c8 : (Int × Unit)) =>
        optAll (layout_Slot.R a1_0 a1_1 (3 : Int)) fun (c9 : (Int × Unit)) =>
        optAll (links_Next.R a0 a1_0 a1_1) fun (c10 : ((Int × (Int × Unit)) × (Bool × Unit))) =>
        cond (((c10).2).1) (
          optAll (links_code.R a2_0 a2_1) fun (c11 : (Int × Unit)) =>
          optAll (layout_Slot.R ((c10).1).1 (((c10).1).2).1 (2 : Int)) fun (c12 : (Int × Unit)) =>
          c = (((((((((([[(DV.v (Value.int IntKind.i64 (c3).1)), (DV.v (Value.int IntKind.i64 (c2).1))]]).take (1)) ++ (([[(DV.v (Value.int IntKind.i64 (c5).1)), (DV.v (Value.int IntKind.i64 (c4).1))]]).take (1))) ++ (([[(DV.v (Value.int IntKind.i64 (c6).1)), (DV.v (Value.int IntKind.i64 (IntKind.i64.wrap ((c1).1 + (1 : Int)))))]]).take (1))) ++ (([[(DV.v (Value.int IntKind.i64 (c7).1)), (DV.v (Value.int IntKind.i64 (0 : Int)))]]).take (1))) ++ (([[(DV.v (Value.int IntKind.i64 (c9).1)), (DV.v (Value.int IntKind.i64 (c8).1))]]).take (1))) ++ (([[(DV.v (Value.int IntKind.i64 (c12).1)), (DV.v (Value.int IntKind.i64 (c11).1))]]).take (1)))).take (6)), ())) (
          c = ((((((((([[(DV.v (Value.int IntKind.i64 (c3).1)), (DV.v (Value.int IntKind.i64 (c2).1))]]).take (1)) ++ (([[(DV.v (Value.int IntKind.i64 (c5).1)), (DV.v (Value.int IntKind.i64 (c4).1))]]).take (1))) ++ (([[(DV.v (Value.int IntKind.i64 (c6).1)), (DV.v (Value.int IntKind.i64 (IntKind.i64.wrap ((c1).1 + (1 : Int)))))]]).take (1))) ++ (([[(DV.v (Value.int IntKind.i64 (c7).1)), (DV.v (Value.int IntKind.i64 (0 : Int)))]]).take (1))) ++ (([[(DV.v (Value.int IntKind.i64 (c9).1)), (DV.v (Value.int IntKind.i64 (c8).1))]]).take (1)))).take (5)), ()))) (
        optAll (links_code.R a1_0 a1_1) fun (c13 : (Int × Unit)) =>
        optAll (layout_Slot.R a2_0 a2_1 (2 : Int)) fun (c14 : (Int × Unit)) =>
        optAll (links_at.R a0 a1_0 a1_1 (3 : Int)) fun (c15 : (Int × Unit)) =>
        optAll (layout_Slot.R a2_0 a2_1 (3 : Int)) fun (c16 : (Int × Unit)) =>
        optAll (layout_Slot.R a2_0 a2_1 (4 : Int)) fun (c17 : (Int × Unit)) =>
        optAll (layout_Slot.R a2_0 a2_1 (5 : Int)) fun (c18 : (Int × Unit)) =>
        optAll (links_code.R a2_0 a2_1) fun (c19 : (Int × Unit)) =>
        optAll (layout_Slot.R a1_0 a1_1 (3 : Int)) fun (c20 : (Int × Unit)) =>
        optAll (links_Next.R a0 a1_0 a1_1) fun (c21 : ((Int × (Int × Unit)) × (Bool × Unit))) =>
        cond (((c21).2).1) (
          optAll (links_code.R a2_0 a2_1) fun (c22 : (Int × Unit)) =>
          optAll (layout_Slot.R ((c21).1).1 (((c21).1).2).1 (2 : Int)) fun (c23 : (Int × Unit)) =>
          c = (((((((((([[(DV.v (Value.int IntKind.i64 (c14).1)), (DV.v (Value.int IntKind.i64 (c13).1))]]).take (1)) ++ (([[(DV.v (Value.int IntKind.i64 (c16).1)), (DV.v (Value.int IntKind.i64 (c15).1))]]).take (1))) ++ (([[(DV.v (Value.int IntKind.i64 (c17).1)), (DV.v (Value.int IntKind.i64 (c1).1))]]).take (1))) ++ (([[(DV.v (Value.int IntKind.i64 (c18).1)), (DV.v (Value.int IntKind.i64 (0 : Int)))]]).take (1))) ++ (([[(DV.v (Value.int IntKind.i64 (c20).1)), (DV.v (Value.int IntKind.i64 (c19).1))]]).take (1))) ++ (([[(DV.v (Value.int IntKind.i64 (c23).1)), (DV.v (Value.int IntKind.i64 (c22).1))]]).take (1)))).take (6)), ())) (
          c = ((((((((([[(DV.v (Value.int IntKind.i64 (c14).1)), (DV.v (Value.int IntKind.i64 (c13).1))]]).take (1)) ++ (([[(DV.v (Value.int IntKind.i64 (c16).1)), (DV.v (Value.int IntKind.i64 (c15).1))]]).take (1))) ++ (([[(DV.v (Value.int IntKind.i64 (c17).1)), (DV.v (Value.int IntKind.i64 (c1).1))]]).take (1))) ++ (([[(DV.v (Value.int IntKind.i64 (c18).1)), (DV.v (Value.int IntKind.i64 (0 : Int)))]]).take (1))) ++ (([[(DV.v (Value.int IntKind.i64 (c20).1)), (DV.v (Value.int IntKind.i64 (c19).1))]]).take (1)))).take (5)), ()))))) : R a0 a1_0 a1_1 a2_0 a2_1 = some c := start_rule (n := 400) (lv := lv) (noSum_ok _) (by kernel_rfl) h
end links_Insert
/-! garrison/links.Remove -/
namespace links_Remove
def lv : Live := []
theorem start (a0 : List (List DV)) (a1_0 : Int) (a1_1 : Int) (c : (List (List DV) × Unit)) (h :
    optAll (links_are.R a0 (([[(DV.v (Value.int IntKind.i64 a1_0)), (DV.v (Value.int IntKind.i64 a1_1))]]).take (1))) fun (c0 : (Bool × Unit)) =>
    cond ((!(c0).1)) (
      c = ((([]).take (0)), ())) (
      optAll (links_Prev.R a0 a1_0 a1_1) fun (c1 : ((Int × (Int × Unit)) × (Bool × Unit))) =>
      cond (((c1).2).1) (
        optAll (links_at.R a0 a1_0 a1_1 (3 : Int)) fun (c2 : (Int × Unit)) =>
        optAll (layout_Slot.R ((c1).1).1 (((c1).1).2).1 (3 : Int)) fun (c3 : (Int × Unit)) =>
        optAll (links_Next.R a0 a1_0 a1_1) fun (c4 : ((Int × (Int × Unit)) × (Bool × Unit))) =>
        cond (((c4).2).1) (
          optAll (links_at.R a0 a1_0 a1_1 (2 : Int)) fun (c5 : (Int × Unit)) =>
          optAll (layout_Slot.R ((c4).1).1 (((c4).1).2).1 (2 : Int)) fun (c6 : (Int × Unit)) =>
          optAll (layout_Slot.R a1_0 a1_1 (2 : Int)) fun (c7 : (Int × Unit)) =>
          optAll (layout_Slot.R a1_0 a1_1 (3 : Int)) fun (c8 : (Int × Unit)) =>
          optAll (layout_Slot.R a1_0 a1_1 (4 : Int)) fun (c9 : (Int × Unit)) =>
          optAll (layout_Slot.R a1_0 a1_1 (5 : Int)) fun (c10 : (Int × Unit)) =>
          c = (((((((((([[(DV.v (Value.int IntKind.i64 (c3).1)), (DV.v (Value.int IntKind.i64 (c2).1))]]).take (1)) ++ (([[(DV.v (Value.int IntKind.i64 (c6).1)), (DV.v (Value.int IntKind.i64 (c5).1))]]).take (1))) ++ (([[(DV.v (Value.int IntKind.i64 (c7).1)), (DV.v (Value.int IntKind.i64 (0 : Int)))]]).take (1))) ++ (([[(DV.v (Value.int IntKind.i64 (c8).1)), (DV.v (Value.int IntKind.i64 (0 : Int)))]]).take (1))) ++ (([[(DV.v (Value.int IntKind.i64 (c9).1)), (DV.v (Value.int IntKind.i64 (0 : Int)))]]).take (1))) ++ (([[(DV.v (Value.int IntKind.i64 (c10).1)), (DV.v (Value.int IntKind.i64 (0 : Int)))]]).take (1)))).take (6)), ())) (
          optAll (layout_Slot.R a1_0 a1_1 (2 : Int)) fun (c11 : (Int × Unit)) =>
          optAll (layout_Slot.R a1_0 a1_1 (3 : Int)) fun (c12 : (Int × Unit)) =>
          optAll (layout_Slot.R a1_0 a1_1 (4 : Int)) fun (c13 : (Int × Unit)) =>
          optAll (layout_Slot.R a1_0 a1_1 (5 : Int)) fun (c14 : (Int × Unit)) =>
          c = ((((((((([[(DV.v (Value.int IntKind.i64 (c3).1)), (DV.v (Value.int IntKind.i64 (c2).1))]]).take (1)) ++ (([[(DV.v (Value.int IntKind.i64 (c11).1)), (DV.v (Value.int IntKind.i64 (0 : Int)))]]).take (1))) ++ (([[(DV.v (Value.int IntKind.i64 (c12).1)), (DV.v (Value.int IntKind.i64 (0 : Int)))]]).take (1))) ++ (([[(DV.v (Value.int IntKind.i64 (c13).1)), (DV.v (Value.int IntKind.i64 (0 : Int)))]]).take (1))) ++ (([[(DV.v (Value.int IntKind.i64 (c14).1)), (DV.v (Value.int IntKind.i64 (0 : Int)))]]).take (1)))).take (5)), ()))) (
        optAll (links_Next.R a0 a1_0 a1_1) fun (c15 : ((Int × (Int × Unit)) × (Bool × Unit))) =>
        cond (((c15).2).1) (
          optAll (links_at.R a0 a1_0 a1_1 (2 : Int)) fun (c16 : (Int × Unit)) =>
          optAll (layout_Slot.R ((c15).1).1 (((c15).1).2).1 (2 : Int)) fun (c17 : (Int × Unit)) =>
          optAll (layout_Slot.R a1_0 a1_1 (2 : Int)) fun (c18 : (Int × Unit)) =>
          optAll (layout_Slot.R a1_0 a1_1 (3 : Int)) fun (c19 : (Int × Unit)) =>
          optAll (layout_Slot.R a1_0 a1_1 (4 : Int)) fun (c20 : (Int × Unit)) =>
          optAll (layout_Slot.R a1_0 a1_1 (5 : Int)) fun (c21 : (Int × Unit)) =>
          c = ((((((((([[(DV.v (Value.int IntKind.i64 (c17).1)), (DV.v (Value.int IntKind.i64 (c16).1))]]).take (1)) ++ (([[(DV.v (Value.int IntKind.i64 (c18).1)), (DV.v (Value.int IntKind.i64 (0 : Int)))]]).take (1))) ++ (([[(DV.v (Value.int IntKind.i64 (c19).1)), (DV.v (Value.int IntKind.i64 (0 : Int)))]]).take (1))) ++ (([[(DV.v (Value.int IntKind.i64 (c20).1)), (DV.v (Value.int IntKind.i64 (0 : Int)))]]).take (1))) ++ (([[(DV.v (Value.int IntKind.i64 (c21).1)), (DV.v (Value.int IntKind.i64 (0 : Int)))]]).take (1)))).take (5)), ())) (
          optAll (layout_Slot.R a1_0 a1_1 (2 : Int)) fun (c22 : (Int × Unit)) =>
          optAll (layout_Slot.R a1_0 a1_1 (3 : Int)) fun (c23 : (Int × Unit)) =>
          optAll (layout_Slot.R a1_0 a1_1 (4 : Int)) fun (c24 : (Int × Unit)) =>
          optAll (layout_Slot.R a1_0 a1_1 (5 : Int)) fun (c25 : (Int × Unit)) =>
          c = (((((((([[(DV.v (Value.int IntKind.i64 (c22).1)), (DV.v (Value.int IntKind.i64 (0 : Int)))]]).take (1)) ++ (([[(DV.v (Value.int IntKind.i64 (c23).1)), (DV.v (Value.int IntKind.i64 (0 : Int)))]]).take (1))) ++ (([[(DV.v (Value.int IntKind.i64 (c24).1)), (DV.v (Value.int IntKind.i64 (0 : Int)))]]).take (1))) ++ (([[(DV.v (Value.int IntKind.i64 (c25).1)), (DV.v (Value.int IntKind.i64 (0 : Int)))]]).take (1)))).take (4)), ()))))) : R a0 a1_0 a1_1 = some c := start_rule (n := 400) (lv := lv) (unSum_ok cfg 6 [40]) (by kernel_rfl) h
end links_Remove
/-! garrison/links.Move -/
namespace links_Move
def lv : Live := [((6, 1048576), [0, 4, 5, 6, 7, 8], [60, 76, 92, 93, 208])]
abbrev H6 (x0 : List (List DV)) (x8 : Int) (b60 : Int) (b60_1 : Int) (b76 : Int) (b76_1 : Int) (b93 : List (List DV)) (c : (List (List DV) × Unit)) : Prop := HeadAns cfg 17 sh lv (bd cfg 17 [1, 1, 1, 0, 1, 0, 0]) 1048576 [.inBlock 0, .code (bd cfg 17 [1, 1, 1, 1])]
  [(AV.d (DV.lst 1 x0)), (AV.ptr 60 0 0 0), (AV.ptr 76 0 0 0), (AV.ptr 92 0 0 0), (AV.fn 67 [(AV.ptr 208 0 0 0)]), (AV.d (DV.v (Value.int IntKind.i64 x8)))] [(Option.some (VBlk.cell 2 0 [(AV.d (DV.v (Value.int IntKind.i64 b60))), (AV.d (DV.v (Value.int IntKind.i64 b60_1)))])), (Option.some (VBlk.cell 2 0 [(AV.d (DV.v (Value.int IntKind.i64 b76))), (AV.d (DV.v (Value.int IntKind.i64 b76_1)))])), (Option.some (VBlk.cell 1 0 [(AV.ref 93 0 0 (List.length b93))])), (Option.some (VBlk.drow 2 0 b93)), (Option.some (VBlk.cell 1 0 [(AV.ptr 92 0 0 0)]))] 1048576 c
theorem start (a0 : List (List DV)) (a1_0 : Int) (a1_1 : Int) (a2_0 : Int) (a2_1 : Int) (c : (List (List DV) × Unit)) (h :
    optAll (links_are.R a0 (([[(DV.v (Value.int IntKind.i64 a1_0)), (DV.v (Value.int IntKind.i64 a1_1))], [(DV.v (Value.int IntKind.i64 a2_0)), (DV.v (Value.int IntKind.i64 a2_1))]]).take (2))) fun (c0 : (Bool × Unit)) =>
    cond ((!(c0).1)) (
      c = ((([]).take (0)), ())) (
      H6 a0 (2 : Int) a1_0 a1_1 a2_0 a2_1 [] c)) : R a0 a1_0 a1_1 a2_0 a2_1 = some c := start_rule (n := 400) (lv := lv) (unSum_ok cfg 6 [40]) (by kernel_rfl) h
theorem H6_step (x0 : List (List DV)) (x8 : Int) (b60 : Int) (b60_1 : Int) (b76 : Int) (b76_1 : Int) (b93 : List (List DV)) (c : (List (List DV) × Unit)) (h :
    cond (decide ((x8 ≤ (5 : Int)))) (
      optAll (links_at.R x0 b60 b60_1 x8) fun (c1 : (Int × Unit)) =>
      optAll (layout_Slot.R b76 b76_1 x8) fun (c2 : (Int × Unit)) =>
      needs ((b93).length = (b93).length) (
      needs (((((b93 ++ (([[(DV.v (Value.int IntKind.i64 (c2).1)), (DV.v (Value.int IntKind.i64 (c1).1))]]).take (1)))).length * 16) ≤ 140737488355328) ∧ ((((b93 ++ (([[(DV.v (Value.int IntKind.i64 (c2).1)), (DV.v (Value.int IntKind.i64 (c1).1))]]).take (1)))).length * 2) ≤ 140737488355328)) (
      H6 x0 (IntKind.i64.wrap (x8 + (1 : Int))) b60 b60_1 b76 b76_1 (b93 ++ (([[(DV.v (Value.int IntKind.i64 (c2).1)), (DV.v (Value.int IntKind.i64 (c1).1))]]).take (1))) c))) (
      optAll (links_Prev.R x0 b60 b60_1) fun (c3 : ((Int × (Int × Unit)) × (Bool × Unit))) =>
      cond (((c3).2).1) (
        optAll (links_code.R b76 b76_1) fun (c4 : (Int × Unit)) =>
        optAll (layout_Slot.R ((c3).1).1 (((c3).1).2).1 (3 : Int)) fun (c5 : (Int × Unit)) =>
        needs ((b93).length = (b93).length) (
        needs (((((b93 ++ (([[(DV.v (Value.int IntKind.i64 (c5).1)), (DV.v (Value.int IntKind.i64 (c4).1))]]).take (1)))).length * 16) ≤ 140737488355328) ∧ ((((b93 ++ (([[(DV.v (Value.int IntKind.i64 (c5).1)), (DV.v (Value.int IntKind.i64 (c4).1))]]).take (1)))).length * 2) ≤ 140737488355328)) (
        optAll (links_Next.R x0 b60 b60_1) fun (c6 : ((Int × (Int × Unit)) × (Bool × Unit))) =>
        cond (((c6).2).1) (
          optAll (links_code.R b76 b76_1) fun (c7 : (Int × Unit)) =>
          optAll (layout_Slot.R ((c6).1).1 (((c6).1).2).1 (2 : Int)) fun (c8 : (Int × Unit)) =>
          needs (((b93 ++ (([[(DV.v (Value.int IntKind.i64 (c5).1)), (DV.v (Value.int IntKind.i64 (c4).1))]]).take (1)))).length = ((b93 ++ (([[(DV.v (Value.int IntKind.i64 (c5).1)), (DV.v (Value.int IntKind.i64 (c4).1))]]).take (1)))).length) (
          needs ((((((b93 ++ (([[(DV.v (Value.int IntKind.i64 (c5).1)), (DV.v (Value.int IntKind.i64 (c4).1))]]).take (1))) ++ (([[(DV.v (Value.int IntKind.i64 (c8).1)), (DV.v (Value.int IntKind.i64 (c7).1))]]).take (1)))).length * 16) ≤ 140737488355328) ∧ (((((b93 ++ (([[(DV.v (Value.int IntKind.i64 (c5).1)), (DV.v (Value.int IntKind.i64 (c4).1))]]).take (1))) ++ (([[(DV.v (Value.int IntKind.i64 (c8).1)), (DV.v (Value.int IntKind.i64 (c7).1))]]).take (1)))).length * 2) ≤ 140737488355328)) (
          optAll (layout_Slot.R b60 b60_1 (2 : Int)) fun (c9 : (Int × Unit)) =>
          needs ((((b93 ++ (([[(DV.v (Value.int IntKind.i64 (c5).1)), (DV.v (Value.int IntKind.i64 (c4).1))]]).take (1))) ++ (([[(DV.v (Value.int IntKind.i64 (c8).1)), (DV.v (Value.int IntKind.i64 (c7).1))]]).take (1)))).length = (((b93 ++ (([[(DV.v (Value.int IntKind.i64 (c5).1)), (DV.v (Value.int IntKind.i64 (c4).1))]]).take (1))) ++ (([[(DV.v (Value.int IntKind.i64 (c8).1)), (DV.v (Value.int IntKind.i64 (c7).1))]]).take (1)))).length) (
          needs (((((((b93 ++ (([[(DV.v (Value.int IntKind.i64 (c5).1)), (DV.v (Value.int IntKind.i64 (c4).1))]]).take (1))) ++ (([[(DV.v (Value.int IntKind.i64 (c8).1)), (DV.v (Value.int IntKind.i64 (c7).1))]]).take (1))) ++ (([[(DV.v (Value.int IntKind.i64 (c9).1)), (DV.v (Value.int IntKind.i64 (0 : Int)))]]).take (1)))).length * 16) ≤ 140737488355328) ∧ ((((((b93 ++ (([[(DV.v (Value.int IntKind.i64 (c5).1)), (DV.v (Value.int IntKind.i64 (c4).1))]]).take (1))) ++ (([[(DV.v (Value.int IntKind.i64 (c8).1)), (DV.v (Value.int IntKind.i64 (c7).1))]]).take (1))) ++ (([[(DV.v (Value.int IntKind.i64 (c9).1)), (DV.v (Value.int IntKind.i64 (0 : Int)))]]).take (1)))).length * 2) ≤ 140737488355328)) (
          optAll (layout_Slot.R b60 b60_1 (3 : Int)) fun (c10 : (Int × Unit)) =>
          needs (((((b93 ++ (([[(DV.v (Value.int IntKind.i64 (c5).1)), (DV.v (Value.int IntKind.i64 (c4).1))]]).take (1))) ++ (([[(DV.v (Value.int IntKind.i64 (c8).1)), (DV.v (Value.int IntKind.i64 (c7).1))]]).take (1))) ++ (([[(DV.v (Value.int IntKind.i64 (c9).1)), (DV.v (Value.int IntKind.i64 (0 : Int)))]]).take (1)))).length = ((((b93 ++ (([[(DV.v (Value.int IntKind.i64 (c5).1)), (DV.v (Value.int IntKind.i64 (c4).1))]]).take (1))) ++ (([[(DV.v (Value.int IntKind.i64 (c8).1)), (DV.v (Value.int IntKind.i64 (c7).1))]]).take (1))) ++ (([[(DV.v (Value.int IntKind.i64 (c9).1)), (DV.v (Value.int IntKind.i64 (0 : Int)))]]).take (1)))).length) (
          needs ((((((((b93 ++ (([[(DV.v (Value.int IntKind.i64 (c5).1)), (DV.v (Value.int IntKind.i64 (c4).1))]]).take (1))) ++ (([[(DV.v (Value.int IntKind.i64 (c8).1)), (DV.v (Value.int IntKind.i64 (c7).1))]]).take (1))) ++ (([[(DV.v (Value.int IntKind.i64 (c9).1)), (DV.v (Value.int IntKind.i64 (0 : Int)))]]).take (1))) ++ (([[(DV.v (Value.int IntKind.i64 (c10).1)), (DV.v (Value.int IntKind.i64 (0 : Int)))]]).take (1)))).length * 16) ≤ 140737488355328) ∧ (((((((b93 ++ (([[(DV.v (Value.int IntKind.i64 (c5).1)), (DV.v (Value.int IntKind.i64 (c4).1))]]).take (1))) ++ (([[(DV.v (Value.int IntKind.i64 (c8).1)), (DV.v (Value.int IntKind.i64 (c7).1))]]).take (1))) ++ (([[(DV.v (Value.int IntKind.i64 (c9).1)), (DV.v (Value.int IntKind.i64 (0 : Int)))]]).take (1))) ++ (([[(DV.v (Value.int IntKind.i64 (c10).1)), (DV.v (Value.int IntKind.i64 (0 : Int)))]]).take (1)))).length * 2) ≤ 140737488355328)) (
          optAll (layout_Slot.R b60 b60_1 (4 : Int)) fun (c11 : (Int × Unit)) =>
          needs ((((((b93 ++ (([[(DV.v (Value.int IntKind.i64 (c5).1)), (DV.v (Value.int IntKind.i64 (c4).1))]]).take (1))) ++ (([[(DV.v (Value.int IntKind.i64 (c8).1)), (DV.v (Value.int IntKind.i64 (c7).1))]]).take (1))) ++ (([[(DV.v (Value.int IntKind.i64 (c9).1)), (DV.v (Value.int IntKind.i64 (0 : Int)))]]).take (1))) ++ (([[(DV.v (Value.int IntKind.i64 (c10).1)), (DV.v (Value.int IntKind.i64 (0 : Int)))]]).take (1)))).length = (((((b93 ++ (([[(DV.v (Value.int IntKind.i64 (c5).1)), (DV.v (Value.int IntKind.i64 (c4).1))]]).take (1))) ++ (([[(DV.v (Value.int IntKind.i64 (c8).1)), (DV.v (Value.int IntKind.i64 (c7).1))]]).take (1))) ++ (([[(DV.v (Value.int IntKind.i64 (c9).1)), (DV.v (Value.int IntKind.i64 (0 : Int)))]]).take (1))) ++ (([[(DV.v (Value.int IntKind.i64 (c10).1)), (DV.v (Value.int IntKind.i64 (0 : Int)))]]).take (1)))).length) (
          needs (((((((((b93 ++ (([[(DV.v (Value.int IntKind.i64 (c5).1)), (DV.v (Value.int IntKind.i64 (c4).1))]]).take (1))) ++ (([[(DV.v (Value.int IntKind.i64 (c8).1)), (DV.v (Value.int IntKind.i64 (c7).1))]]).take (1))) ++ (([[(DV.v (Value.int IntKind.i64 (c9).1)), (DV.v (Value.int IntKind.i64 (0 : Int)))]]).take (1))) ++ (([[(DV.v (Value.int IntKind.i64 (c10).1)), (DV.v (Value.int IntKind.i64 (0 : Int)))]]).take (1))) ++ (([[(DV.v (Value.int IntKind.i64 (c11).1)), (DV.v (Value.int IntKind.i64 (0 : Int)))]]).take (1)))).length * 16) ≤ 140737488355328) ∧ ((((((((b93 ++ (([[(DV.v (Value.int IntKind.i64 (c5).1)), (DV.v (Value.int IntKind.i64 (c4).1))]]).take (1))) ++ (([[(DV.v (Value.int IntKind.i64 (c8).1)), (DV.v (Value.int IntKind.i64 (c7).1))]]).take (1))) ++ (([[(DV.v (Value.int IntKind.i64 (c9).1)), (DV.v (Value.int IntKind.i64 (0 : Int)))]]).take (1))) ++ (([[(DV.v (Value.int IntKind.i64 (c10).1)), (DV.v (Value.int IntKind.i64 (0 : Int)))]]).take (1))) ++ (([[(DV.v (Value.int IntKind.i64 (c11).1)), (DV.v (Value.int IntKind.i64 (0 : Int)))]]).take (1)))).length * 2) ≤ 140737488355328)) (
          optAll (layout_Slot.R b60 b60_1 (5 : Int)) fun (c12 : (Int × Unit)) =>
          needs (((((((b93 ++ (([[(DV.v (Value.int IntKind.i64 (c5).1)), (DV.v (Value.int IntKind.i64 (c4).1))]]).take (1))) ++ (([[(DV.v (Value.int IntKind.i64 (c8).1)), (DV.v (Value.int IntKind.i64 (c7).1))]]).take (1))) ++ (([[(DV.v (Value.int IntKind.i64 (c9).1)), (DV.v (Value.int IntKind.i64 (0 : Int)))]]).take (1))) ++ (([[(DV.v (Value.int IntKind.i64 (c10).1)), (DV.v (Value.int IntKind.i64 (0 : Int)))]]).take (1))) ++ (([[(DV.v (Value.int IntKind.i64 (c11).1)), (DV.v (Value.int IntKind.i64 (0 : Int)))]]).take (1)))).length = ((((((b93 ++ (([[(DV.v (Value.int IntKind.i64 (c5).1)), (DV.v (Value.int IntKind.i64 (c4).1))]]).take (1))) ++ (([[(DV.v (Value.int IntKind.i64 (c8).1)), (DV.v (Value.int IntKind.i64 (c7).1))]]).take (1))) ++ (([[(DV.v (Value.int IntKind.i64 (c9).1)), (DV.v (Value.int IntKind.i64 (0 : Int)))]]).take (1))) ++ (([[(DV.v (Value.int IntKind.i64 (c10).1)), (DV.v (Value.int IntKind.i64 (0 : Int)))]]).take (1))) ++ (([[(DV.v (Value.int IntKind.i64 (c11).1)), (DV.v (Value.int IntKind.i64 (0 : Int)))]]).take (1)))).length) (
          needs ((((((((((b93 ++ (([[(DV.v (Value.int IntKind.i64 (c5).1)), (DV.v (Value.int IntKind.i64 (c4).1))]]).take (1))) ++ (([[(DV.v (Value.int IntKind.i64 (c8).1)), (DV.v (Value.int IntKind.i64 (c7).1))]]).take (1))) ++ (([[(DV.v (Value.int IntKind.i64 (c9).1)), (DV.v (Value.int IntKind.i64 (0 : Int)))]]).take (1))) ++ (([[(DV.v (Value.int IntKind.i64 (c10).1)), (DV.v (Value.int IntKind.i64 (0 : Int)))]]).take (1))) ++ (([[(DV.v (Value.int IntKind.i64 (c11).1)), (DV.v (Value.int IntKind.i64 (0 : Int)))]]).take (1))) ++ (([[(DV.v (Value.int IntKind.i64 (c12).1)), (DV.v (Value.int IntKind.i64 (0 : Int)))]]).take (1)))).length * 16) ≤ 140737488355328) ∧ (((((((((b93 ++ (([[(DV.v (Value.int IntKind.i64 (c5).1)), (DV.v (Value.int IntKind.i64 (c4).1))]]).take (1))) ++ (([[(DV.v (Value.int IntKind.i64 (c8).1)), (DV.v (Value.int IntKind.i64 (c7).1))]]).take (1))) ++ (([[(DV.v (Value.int IntKind.i64 (c9).1)), (DV.v (Value.int IntKind.i64 (0 : Int)))]]).take (1))) ++ (([[(DV.v (Value.int IntKind.i64 (c10).1)), (DV.v (Value.int IntKind.i64 (0 : Int)))]]).take (1))) ++ (([[(DV.v (Value.int IntKind.i64 (c11).1)), (DV.v (Value.int IntKind.i64 (0 : Int)))]]).take (1))) ++ (([[(DV.v (Value.int IntKind.i64 (c12).1)), (DV.v (Value.int IntKind.i64 (0 : Int)))]]).take (1)))).length * 2) ≤ 140737488355328)) (
          c = (((((((((b93 ++ (([[(DV.v (Value.int IntKind.i64 (c5).1)), (DV.v (Value.int IntKind.i64 (c4).1))]]).take (1))) ++ (([[(DV.v (Value.int IntKind.i64 (c8).1)), (DV.v (Value.int IntKind.i64 (c7).1))]]).take (1))) ++ (([[(DV.v (Value.int IntKind.i64 (c9).1)), (DV.v (Value.int IntKind.i64 (0 : Int)))]]).take (1))) ++ (([[(DV.v (Value.int IntKind.i64 (c10).1)), (DV.v (Value.int IntKind.i64 (0 : Int)))]]).take (1))) ++ (([[(DV.v (Value.int IntKind.i64 (c11).1)), (DV.v (Value.int IntKind.i64 (0 : Int)))]]).take (1))) ++ (([[(DV.v (Value.int IntKind.i64 (c12).1)), (DV.v (Value.int IntKind.i64 (0 : Int)))]]).take (1)))).take ((((((((b93 ++ (([[(DV.v (Value.int IntKind.i64 (c5).1)), (DV.v (Value.int IntKind.i64 (c4).1))]]).take (1))) ++ (([[(DV.v (Value.int IntKind.i64 (c8).1)), (DV.v (Value.int IntKind.i64 (c7).1))]]).take (1))) ++ (([[(DV.v (Value.int IntKind.i64 (c9).1)), (DV.v (Value.int IntKind.i64 (0 : Int)))]]).take (1))) ++ (([[(DV.v (Value.int IntKind.i64 (c10).1)), (DV.v (Value.int IntKind.i64 (0 : Int)))]]).take (1))) ++ (([[(DV.v (Value.int IntKind.i64 (c11).1)), (DV.v (Value.int IntKind.i64 (0 : Int)))]]).take (1))) ++ (([[(DV.v (Value.int IntKind.i64 (c12).1)), (DV.v (Value.int IntKind.i64 (0 : Int)))]]).take (1)))).length)), ())))))))))))) (
          optAll (layout_Slot.R b60 b60_1 (2 : Int)) fun (c13 : (Int × Unit)) =>
          needs (((b93 ++ (([[(DV.v (Value.int IntKind.i64 (c5).1)), (DV.v (Value.int IntKind.i64 (c4).1))]]).take (1)))).length = ((b93 ++ (([[(DV.v (Value.int IntKind.i64 (c5).1)), (DV.v (Value.int IntKind.i64 (c4).1))]]).take (1)))).length) (
          needs ((((((b93 ++ (([[(DV.v (Value.int IntKind.i64 (c5).1)), (DV.v (Value.int IntKind.i64 (c4).1))]]).take (1))) ++ (([[(DV.v (Value.int IntKind.i64 (c13).1)), (DV.v (Value.int IntKind.i64 (0 : Int)))]]).take (1)))).length * 16) ≤ 140737488355328) ∧ (((((b93 ++ (([[(DV.v (Value.int IntKind.i64 (c5).1)), (DV.v (Value.int IntKind.i64 (c4).1))]]).take (1))) ++ (([[(DV.v (Value.int IntKind.i64 (c13).1)), (DV.v (Value.int IntKind.i64 (0 : Int)))]]).take (1)))).length * 2) ≤ 140737488355328)) (
          optAll (layout_Slot.R b60 b60_1 (3 : Int)) fun (c14 : (Int × Unit)) =>
          needs ((((b93 ++ (([[(DV.v (Value.int IntKind.i64 (c5).1)), (DV.v (Value.int IntKind.i64 (c4).1))]]).take (1))) ++ (([[(DV.v (Value.int IntKind.i64 (c13).1)), (DV.v (Value.int IntKind.i64 (0 : Int)))]]).take (1)))).length = (((b93 ++ (([[(DV.v (Value.int IntKind.i64 (c5).1)), (DV.v (Value.int IntKind.i64 (c4).1))]]).take (1))) ++ (([[(DV.v (Value.int IntKind.i64 (c13).1)), (DV.v (Value.int IntKind.i64 (0 : Int)))]]).take (1)))).length) (
          needs (((((((b93 ++ (([[(DV.v (Value.int IntKind.i64 (c5).1)), (DV.v (Value.int IntKind.i64 (c4).1))]]).take (1))) ++ (([[(DV.v (Value.int IntKind.i64 (c13).1)), (DV.v (Value.int IntKind.i64 (0 : Int)))]]).take (1))) ++ (([[(DV.v (Value.int IntKind.i64 (c14).1)), (DV.v (Value.int IntKind.i64 (0 : Int)))]]).take (1)))).length * 16) ≤ 140737488355328) ∧ ((((((b93 ++ (([[(DV.v (Value.int IntKind.i64 (c5).1)), (DV.v (Value.int IntKind.i64 (c4).1))]]).take (1))) ++ (([[(DV.v (Value.int IntKind.i64 (c13).1)), (DV.v (Value.int IntKind.i64 (0 : Int)))]]).take (1))) ++ (([[(DV.v (Value.int IntKind.i64 (c14).1)), (DV.v (Value.int IntKind.i64 (0 : Int)))]]).take (1)))).length * 2) ≤ 140737488355328)) (
          optAll (layout_Slot.R b60 b60_1 (4 : Int)) fun (c15 : (Int × Unit)) =>
          needs (((((b93 ++ (([[(DV.v (Value.int IntKind.i64 (c5).1)), (DV.v (Value.int IntKind.i64 (c4).1))]]).take (1))) ++ (([[(DV.v (Value.int IntKind.i64 (c13).1)), (DV.v (Value.int IntKind.i64 (0 : Int)))]]).take (1))) ++ (([[(DV.v (Value.int IntKind.i64 (c14).1)), (DV.v (Value.int IntKind.i64 (0 : Int)))]]).take (1)))).length = ((((b93 ++ (([[(DV.v (Value.int IntKind.i64 (c5).1)), (DV.v (Value.int IntKind.i64 (c4).1))]]).take (1))) ++ (([[(DV.v (Value.int IntKind.i64 (c13).1)), (DV.v (Value.int IntKind.i64 (0 : Int)))]]).take (1))) ++ (([[(DV.v (Value.int IntKind.i64 (c14).1)), (DV.v (Value.int IntKind.i64 (0 : Int)))]]).take (1)))).length) (
          needs ((((((((b93 ++ (([[(DV.v (Value.int IntKind.i64 (c5).1)), (DV.v (Value.int IntKind.i64 (c4).1))]]).take (1))) ++ (([[(DV.v (Value.int IntKind.i64 (c13).1)), (DV.v (Value.int IntKind.i64 (0 : Int)))]]).take (1))) ++ (([[(DV.v (Value.int IntKind.i64 (c14).1)), (DV.v (Value.int IntKind.i64 (0 : Int)))]]).take (1))) ++ (([[(DV.v (Value.int IntKind.i64 (c15).1)), (DV.v (Value.int IntKind.i64 (0 : Int)))]]).take (1)))).length * 16) ≤ 140737488355328) ∧ (((((((b93 ++ (([[(DV.v (Value.int IntKind.i64 (c5).1)), (DV.v (Value.int IntKind.i64 (c4).1))]]).take (1))) ++ (([[(DV.v (Value.int IntKind.i64 (c13).1)), (DV.v (Value.int IntKind.i64 (0 : Int)))]]).take (1))) ++ (([[(DV.v (Value.int IntKind.i64 (c14).1)), (DV.v (Value.int IntKind.i64 (0 : Int)))]]).take (1))) ++ (([[(DV.v (Value.int IntKind.i64 (c15).1)), (DV.v (Value.int IntKind.i64 (0 : Int)))]]).take (1)))).length * 2) ≤ 140737488355328)) (
          optAll (layout_Slot.R b60 b60_1 (5 : Int)) fun (c16 : (Int × Unit)) =>
          needs ((((((b93 ++ (([[(DV.v (Value.int IntKind.i64 (c5).1)), (DV.v (Value.int IntKind.i64 (c4).1))]]).take (1))) ++ (([[(DV.v (Value.int IntKind.i64 (c13).1)), (DV.v (Value.int IntKind.i64 (0 : Int)))]]).take (1))) ++ (([[(DV.v (Value.int IntKind.i64 (c14).1)), (DV.v (Value.int IntKind.i64 (0 : Int)))]]).take (1))) ++ (([[(DV.v (Value.int IntKind.i64 (c15).1)), (DV.v (Value.int IntKind.i64 (0 : Int)))]]).take (1)))).length = (((((b93 ++ (([[(DV.v (Value.int IntKind.i64 (c5).1)), (DV.v (Value.int IntKind.i64 (c4).1))]]).take (1))) ++ (([[(DV.v (Value.int IntKind.i64 (c13).1)), (DV.v (Value.int IntKind.i64 (0 : Int)))]]).take (1))) ++ (([[(DV.v (Value.int IntKind.i64 (c14).1)), (DV.v (Value.int IntKind.i64 (0 : Int)))]]).take (1))) ++ (([[(DV.v (Value.int IntKind.i64 (c15).1)), (DV.v (Value.int IntKind.i64 (0 : Int)))]]).take (1)))).length) (
          needs (((((((((b93 ++ (([[(DV.v (Value.int IntKind.i64 (c5).1)), (DV.v (Value.int IntKind.i64 (c4).1))]]).take (1))) ++ (([[(DV.v (Value.int IntKind.i64 (c13).1)), (DV.v (Value.int IntKind.i64 (0 : Int)))]]).take (1))) ++ (([[(DV.v (Value.int IntKind.i64 (c14).1)), (DV.v (Value.int IntKind.i64 (0 : Int)))]]).take (1))) ++ (([[(DV.v (Value.int IntKind.i64 (c15).1)), (DV.v (Value.int IntKind.i64 (0 : Int)))]]).take (1))) ++ (([[(DV.v (Value.int IntKind.i64 (c16).1)), (DV.v (Value.int IntKind.i64 (0 : Int)))]]).take (1)))).length * 16) ≤ 140737488355328) ∧ ((((((((b93 ++ (([[(DV.v (Value.int IntKind.i64 (c5).1)), (DV.v (Value.int IntKind.i64 (c4).1))]]).take (1))) ++ (([[(DV.v (Value.int IntKind.i64 (c13).1)), (DV.v (Value.int IntKind.i64 (0 : Int)))]]).take (1))) ++ (([[(DV.v (Value.int IntKind.i64 (c14).1)), (DV.v (Value.int IntKind.i64 (0 : Int)))]]).take (1))) ++ (([[(DV.v (Value.int IntKind.i64 (c15).1)), (DV.v (Value.int IntKind.i64 (0 : Int)))]]).take (1))) ++ (([[(DV.v (Value.int IntKind.i64 (c16).1)), (DV.v (Value.int IntKind.i64 (0 : Int)))]]).take (1)))).length * 2) ≤ 140737488355328)) (
          c = ((((((((b93 ++ (([[(DV.v (Value.int IntKind.i64 (c5).1)), (DV.v (Value.int IntKind.i64 (c4).1))]]).take (1))) ++ (([[(DV.v (Value.int IntKind.i64 (c13).1)), (DV.v (Value.int IntKind.i64 (0 : Int)))]]).take (1))) ++ (([[(DV.v (Value.int IntKind.i64 (c14).1)), (DV.v (Value.int IntKind.i64 (0 : Int)))]]).take (1))) ++ (([[(DV.v (Value.int IntKind.i64 (c15).1)), (DV.v (Value.int IntKind.i64 (0 : Int)))]]).take (1))) ++ (([[(DV.v (Value.int IntKind.i64 (c16).1)), (DV.v (Value.int IntKind.i64 (0 : Int)))]]).take (1)))).take (((((((b93 ++ (([[(DV.v (Value.int IntKind.i64 (c5).1)), (DV.v (Value.int IntKind.i64 (c4).1))]]).take (1))) ++ (([[(DV.v (Value.int IntKind.i64 (c13).1)), (DV.v (Value.int IntKind.i64 (0 : Int)))]]).take (1))) ++ (([[(DV.v (Value.int IntKind.i64 (c14).1)), (DV.v (Value.int IntKind.i64 (0 : Int)))]]).take (1))) ++ (([[(DV.v (Value.int IntKind.i64 (c15).1)), (DV.v (Value.int IntKind.i64 (0 : Int)))]]).take (1))) ++ (([[(DV.v (Value.int IntKind.i64 (c16).1)), (DV.v (Value.int IntKind.i64 (0 : Int)))]]).take (1)))).length)), ()))))))))))))) (
        optAll (links_Next.R x0 b60 b60_1) fun (c17 : ((Int × (Int × Unit)) × (Bool × Unit))) =>
        cond (((c17).2).1) (
          optAll (links_code.R b76 b76_1) fun (c18 : (Int × Unit)) =>
          optAll (layout_Slot.R ((c17).1).1 (((c17).1).2).1 (2 : Int)) fun (c19 : (Int × Unit)) =>
          needs ((b93).length = (b93).length) (
          needs (((((b93 ++ (([[(DV.v (Value.int IntKind.i64 (c19).1)), (DV.v (Value.int IntKind.i64 (c18).1))]]).take (1)))).length * 16) ≤ 140737488355328) ∧ ((((b93 ++ (([[(DV.v (Value.int IntKind.i64 (c19).1)), (DV.v (Value.int IntKind.i64 (c18).1))]]).take (1)))).length * 2) ≤ 140737488355328)) (
          optAll (layout_Slot.R b60 b60_1 (2 : Int)) fun (c20 : (Int × Unit)) =>
          needs (((b93 ++ (([[(DV.v (Value.int IntKind.i64 (c19).1)), (DV.v (Value.int IntKind.i64 (c18).1))]]).take (1)))).length = ((b93 ++ (([[(DV.v (Value.int IntKind.i64 (c19).1)), (DV.v (Value.int IntKind.i64 (c18).1))]]).take (1)))).length) (
          needs ((((((b93 ++ (([[(DV.v (Value.int IntKind.i64 (c19).1)), (DV.v (Value.int IntKind.i64 (c18).1))]]).take (1))) ++ (([[(DV.v (Value.int IntKind.i64 (c20).1)), (DV.v (Value.int IntKind.i64 (0 : Int)))]]).take (1)))).length * 16) ≤ 140737488355328) ∧ (((((b93 ++ (([[(DV.v (Value.int IntKind.i64 (c19).1)), (DV.v (Value.int IntKind.i64 (c18).1))]]).take (1))) ++ (([[(DV.v (Value.int IntKind.i64 (c20).1)), (DV.v (Value.int IntKind.i64 (0 : Int)))]]).take (1)))).length * 2) ≤ 140737488355328)) (
          optAll (layout_Slot.R b60 b60_1 (3 : Int)) fun (c21 : (Int × Unit)) =>
          needs ((((b93 ++ (([[(DV.v (Value.int IntKind.i64 (c19).1)), (DV.v (Value.int IntKind.i64 (c18).1))]]).take (1))) ++ (([[(DV.v (Value.int IntKind.i64 (c20).1)), (DV.v (Value.int IntKind.i64 (0 : Int)))]]).take (1)))).length = (((b93 ++ (([[(DV.v (Value.int IntKind.i64 (c19).1)), (DV.v (Value.int IntKind.i64 (c18).1))]]).take (1))) ++ (([[(DV.v (Value.int IntKind.i64 (c20).1)), (DV.v (Value.int IntKind.i64 (0 : Int)))]]).take (1)))).length) (
          needs (((((((b93 ++ (([[(DV.v (Value.int IntKind.i64 (c19).1)), (DV.v (Value.int IntKind.i64 (c18).1))]]).take (1))) ++ (([[(DV.v (Value.int IntKind.i64 (c20).1)), (DV.v (Value.int IntKind.i64 (0 : Int)))]]).take (1))) ++ (([[(DV.v (Value.int IntKind.i64 (c21).1)), (DV.v (Value.int IntKind.i64 (0 : Int)))]]).take (1)))).length * 16) ≤ 140737488355328) ∧ ((((((b93 ++ (([[(DV.v (Value.int IntKind.i64 (c19).1)), (DV.v (Value.int IntKind.i64 (c18).1))]]).take (1))) ++ (([[(DV.v (Value.int IntKind.i64 (c20).1)), (DV.v (Value.int IntKind.i64 (0 : Int)))]]).take (1))) ++ (([[(DV.v (Value.int IntKind.i64 (c21).1)), (DV.v (Value.int IntKind.i64 (0 : Int)))]]).take (1)))).length * 2) ≤ 140737488355328)) (
          optAll (layout_Slot.R b60 b60_1 (4 : Int)) fun (c22 : (Int × Unit)) =>
          needs (((((b93 ++ (([[(DV.v (Value.int IntKind.i64 (c19).1)), (DV.v (Value.int IntKind.i64 (c18).1))]]).take (1))) ++ (([[(DV.v (Value.int IntKind.i64 (c20).1)), (DV.v (Value.int IntKind.i64 (0 : Int)))]]).take (1))) ++ (([[(DV.v (Value.int IntKind.i64 (c21).1)), (DV.v (Value.int IntKind.i64 (0 : Int)))]]).take (1)))).length = ((((b93 ++ (([[(DV.v (Value.int IntKind.i64 (c19).1)), (DV.v (Value.int IntKind.i64 (c18).1))]]).take (1))) ++ (([[(DV.v (Value.int IntKind.i64 (c20).1)), (DV.v (Value.int IntKind.i64 (0 : Int)))]]).take (1))) ++ (([[(DV.v (Value.int IntKind.i64 (c21).1)), (DV.v (Value.int IntKind.i64 (0 : Int)))]]).take (1)))).length) (
          needs ((((((((b93 ++ (([[(DV.v (Value.int IntKind.i64 (c19).1)), (DV.v (Value.int IntKind.i64 (c18).1))]]).take (1))) ++ (([[(DV.v (Value.int IntKind.i64 (c20).1)), (DV.v (Value.int IntKind.i64 (0 : Int)))]]).take (1))) ++ (([[(DV.v (Value.int IntKind.i64 (c21).1)), (DV.v (Value.int IntKind.i64 (0 : Int)))]]).take (1))) ++ (([[(DV.v (Value.int IntKind.i64 (c22).1)), (DV.v (Value.int IntKind.i64 (0 : Int)))]]).take (1)))).length * 16) ≤ 140737488355328) ∧ (((((((b93 ++ (([[(DV.v (Value.int IntKind.i64 (c19).1)), (DV.v (Value.int IntKind.i64 (c18).1))]]).take (1))) ++ (([[(DV.v (Value.int IntKind.i64 (c20).1)), (DV.v (Value.int IntKind.i64 (0 : Int)))]]).take (1))) ++ (([[(DV.v (Value.int IntKind.i64 (c21).1)), (DV.v (Value.int IntKind.i64 (0 : Int)))]]).take (1))) ++ (([[(DV.v (Value.int IntKind.i64 (c22).1)), (DV.v (Value.int IntKind.i64 (0 : Int)))]]).take (1)))).length * 2) ≤ 140737488355328)) (
          optAll (layout_Slot.R b60 b60_1 (5 : Int)) fun (c23 : (Int × Unit)) =>
          needs ((((((b93 ++ (([[(DV.v (Value.int IntKind.i64 (c19).1)), (DV.v (Value.int IntKind.i64 (c18).1))]]).take (1))) ++ (([[(DV.v (Value.int IntKind.i64 (c20).1)), (DV.v (Value.int IntKind.i64 (0 : Int)))]]).take (1))) ++ (([[(DV.v (Value.int IntKind.i64 (c21).1)), (DV.v (Value.int IntKind.i64 (0 : Int)))]]).take (1))) ++ (([[(DV.v (Value.int IntKind.i64 (c22).1)), (DV.v (Value.int IntKind.i64 (0 : Int)))]]).take (1)))).length = (((((b93 ++ (([[(DV.v (Value.int IntKind.i64 (c19).1)), (DV.v (Value.int IntKind.i64 (c18).1))]]).take (1))) ++ (([[(DV.v (Value.int IntKind.i64 (c20).1)), (DV.v (Value.int IntKind.i64 (0 : Int)))]]).take (1))) ++ (([[(DV.v (Value.int IntKind.i64 (c21).1)), (DV.v (Value.int IntKind.i64 (0 : Int)))]]).take (1))) ++ (([[(DV.v (Value.int IntKind.i64 (c22).1)), (DV.v (Value.int IntKind.i64 (0 : Int)))]]).take (1)))).length) (
          needs (((((((((b93 ++ (([[(DV.v (Value.int IntKind.i64 (c19).1)), (DV.v (Value.int IntKind.i64 (c18).1))]]).take (1))) ++ (([[(DV.v (Value.int IntKind.i64 (c20).1)), (DV.v (Value.int IntKind.i64 (0 : Int)))]]).take (1))) ++ (([[(DV.v (Value.int IntKind.i64 (c21).1)), (DV.v (Value.int IntKind.i64 (0 : Int)))]]).take (1))) ++ (([[(DV.v (Value.int IntKind.i64 (c22).1)), (DV.v (Value.int IntKind.i64 (0 : Int)))]]).take (1))) ++ (([[(DV.v (Value.int IntKind.i64 (c23).1)), (DV.v (Value.int IntKind.i64 (0 : Int)))]]).take (1)))).length * 16) ≤ 140737488355328) ∧ ((((((((b93 ++ (([[(DV.v (Value.int IntKind.i64 (c19).1)), (DV.v (Value.int IntKind.i64 (c18).1))]]).take (1))) ++ (([[(DV.v (Value.int IntKind.i64 (c20).1)), (DV.v (Value.int IntKind.i64 (0 : Int)))]]).take (1))) ++ (([[(DV.v (Value.int IntKind.i64 (c21).1)), (DV.v (Value.int IntKind.i64 (0 : Int)))]]).take (1))) ++ (([[(DV.v (Value.int IntKind.i64 (c22).1)), (DV.v (Value.int IntKind.i64 (0 : Int)))]]).take (1))) ++ (([[(DV.v (Value.int IntKind.i64 (c23).1)), (DV.v (Value.int IntKind.i64 (0 : Int)))]]).take (1)))).length * 2) ≤ 140737488355328)) (
          c = ((((((((b93 ++ (([[(DV.v (Value.int IntKind.i64 (c19).1)), (DV.v (Value.int IntKind.i64 (c18).1))]]).take (1))) ++ (([[(DV.v (Value.int IntKind.i64 (c20).1)), (DV.v (Value.int IntKind.i64 (0 : Int)))]]).take (1))) ++ (([[(DV.v (Value.int IntKind.i64 (c21).1)), (DV.v (Value.int IntKind.i64 (0 : Int)))]]).take (1))) ++ (([[(DV.v (Value.int IntKind.i64 (c22).1)), (DV.v (Value.int IntKind.i64 (0 : Int)))]]).take (1))) ++ (([[(DV.v (Value.int IntKind.i64 (c23).1)), (DV.v (Value.int IntKind.i64 (0 : Int)))]]).take (1)))).take (((((((b93 ++ (([[(DV.v (Value.int IntKind.i64 (c19).1)), (DV.v (Value.int IntKind.i64 (c18).1))]]).take (1))) ++ (([[(DV.v (Value.int IntKind.i64 (c20).1)), (DV.v (Value.int IntKind.i64 (0 : Int)))]]).take (1))) ++ (([[(DV.v (Value.int IntKind.i64 (c21).1)), (DV.v (Value.int IntKind.i64 (0 : Int)))]]).take (1))) ++ (([[(DV.v (Value.int IntKind.i64 (c22).1)), (DV.v (Value.int IntKind.i64 (0 : Int)))]]).take (1))) ++ (([[(DV.v (Value.int IntKind.i64 (c23).1)), (DV.v (Value.int IntKind.i64 (0 : Int)))]]).take (1)))).length)), ())))))))))))) (
          optAll (layout_Slot.R b60 b60_1 (2 : Int)) fun (c24 : (Int × Unit)) =>
          needs ((b93).length = (b93).length) (
          needs (((((b93 ++ (([[(DV.v (Value.int IntKind.i64 (c24).1)), (DV.v (Value.int IntKind.i64 (0 : Int)))]]).take (1)))).length * 16) ≤ 140737488355328) ∧ ((((b93 ++ (([[(DV.v (Value.int IntKind.i64 (c24).1)), (DV.v (Value.int IntKind.i64 (0 : Int)))]]).take (1)))).length * 2) ≤ 140737488355328)) (
          optAll (layout_Slot.R b60 b60_1 (3 : Int)) fun (c25 : (Int × Unit)) =>
          needs (((b93 ++ (([[(DV.v (Value.int IntKind.i64 (c24).1)), (DV.v (Value.int IntKind.i64 (0 : Int)))]]).take (1)))).length = ((b93 ++ (([[(DV.v (Value.int IntKind.i64 (c24).1)), (DV.v (Value.int IntKind.i64 (0 : Int)))]]).take (1)))).length) (
          needs ((((((b93 ++ (([[(DV.v (Value.int IntKind.i64 (c24).1)), (DV.v (Value.int IntKind.i64 (0 : Int)))]]).take (1))) ++ (([[(DV.v (Value.int IntKind.i64 (c25).1)), (DV.v (Value.int IntKind.i64 (0 : Int)))]]).take (1)))).length * 16) ≤ 140737488355328) ∧ (((((b93 ++ (([[(DV.v (Value.int IntKind.i64 (c24).1)), (DV.v (Value.int IntKind.i64 (0 : Int)))]]).take (1))) ++ (([[(DV.v (Value.int IntKind.i64 (c25).1)), (DV.v (Value.int IntKind.i64 (0 : Int)))]]).take (1)))).length * 2) ≤ 140737488355328)) (
          optAll (layout_Slot.R b60 b60_1 (4 : Int)) fun (c26 : (Int × Unit)) =>
          needs ((((b93 ++ (([[(DV.v (Value.int IntKind.i64 (c24).1)), (DV.v (Value.int IntKind.i64 (0 : Int)))]]).take (1))) ++ (([[(DV.v (Value.int IntKind.i64 (c25).1)), (DV.v (Value.int IntKind.i64 (0 : Int)))]]).take (1)))).length = (((b93 ++ (([[(DV.v (Value.int IntKind.i64 (c24).1)), (DV.v (Value.int IntKind.i64 (0 : Int)))]]).take (1))) ++ (([[(DV.v (Value.int IntKind.i64 (c25).1)), (DV.v (Value.int IntKind.i64 (0 : Int)))]]).take (1)))).length) (
          needs (((((((b93 ++ (([[(DV.v (Value.int IntKind.i64 (c24).1)), (DV.v (Value.int IntKind.i64 (0 : Int)))]]).take (1))) ++ (([[(DV.v (Value.int IntKind.i64 (c25).1)), (DV.v (Value.int IntKind.i64 (0 : Int)))]]).take (1))) ++ (([[(DV.v (Value.int IntKind.i64 (c26).1)), (DV.v (Value.int IntKind.i64 (0 : Int)))]]).take (1)))).length * 16) ≤ 140737488355328) ∧ ((((((b93 ++ (([[(DV.v (Value.int IntKind.i64 (c24).1)), (DV.v (Value.int IntKind.i64 (0 : Int)))]]).take (1))) ++ (([[(DV.v (Value.int IntKind.i64 (c25).1)), (DV.v (Value.int IntKind.i64 (0 : Int)))]]).take (1))) ++ (([[(DV.v (Value.int IntKind.i64 (c26).1)), (DV.v (Value.int IntKind.i64 (0 : Int)))]]).take (1)))).length * 2) ≤ 140737488355328)) (
          optAll (layout_Slot.R b60 b60_1 (5 : Int)) fun (c27 : (Int × Unit)) =>
          needs (((((b93 ++ (([[(DV.v (Value.int IntKind.i64 (c24).1)), (DV.v (Value.int IntKind.i64 (0 : Int)))]]).take (1))) ++ (([[(DV.v (Value.int IntKind.i64 (c25).1)), (DV.v (Value.int IntKind.i64 (0 : Int)))]]).take (1))) ++ (([[(DV.v (Value.int IntKind.i64 (c26).1)), (DV.v (Value.int IntKind.i64 (0 : Int)))]]).take (1)))).length = ((((b93 ++ (([[(DV.v (Value.int IntKind.i64 (c24).1)), (DV.v (Value.int IntKind.i64 (0 : Int)))]]).take (1))) ++ (([[(DV.v (Value.int IntKind.i64 (c25).1)), (DV.v (Value.int IntKind.i64 (0 : Int)))]]).take (1))) ++ (([[(DV.v (Value.int IntKind.i64 (c26).1)), (DV.v (Value.int IntKind.i64 (0 : Int)))]]).take (1)))).length) (
          needs ((((((((b93 ++ (([[(DV.v (Value.int IntKind.i64 (c24).1)), (DV.v (Value.int IntKind.i64 (0 : Int)))]]).take (1))) ++ (([[(DV.v (Value.int IntKind.i64 (c25).1)), (DV.v (Value.int IntKind.i64 (0 : Int)))]]).take (1))) ++ (([[(DV.v (Value.int IntKind.i64 (c26).1)), (DV.v (Value.int IntKind.i64 (0 : Int)))]]).take (1))) ++ (([[(DV.v (Value.int IntKind.i64 (c27).1)), (DV.v (Value.int IntKind.i64 (0 : Int)))]]).take (1)))).length * 16) ≤ 140737488355328) ∧ (((((((b93 ++ (([[(DV.v (Value.int IntKind.i64 (c24).1)), (DV.v (Value.int IntKind.i64 (0 : Int)))]]).take (1))) ++ (([[(DV.v (Value.int IntKind.i64 (c25).1)), (DV.v (Value.int IntKind.i64 (0 : Int)))]]).take (1))) ++ (([[(DV.v (Value.int IntKind.i64 (c26).1)), (DV.v (Value.int IntKind.i64 (0 : Int)))]]).take (1))) ++ (([[(DV.v (Value.int IntKind.i64 (c27).1)), (DV.v (Value.int IntKind.i64 (0 : Int)))]]).take (1)))).length * 2) ≤ 140737488355328)) (
          c = (((((((b93 ++ (([[(DV.v (Value.int IntKind.i64 (c24).1)), (DV.v (Value.int IntKind.i64 (0 : Int)))]]).take (1))) ++ (([[(DV.v (Value.int IntKind.i64 (c25).1)), (DV.v (Value.int IntKind.i64 (0 : Int)))]]).take (1))) ++ (([[(DV.v (Value.int IntKind.i64 (c26).1)), (DV.v (Value.int IntKind.i64 (0 : Int)))]]).take (1))) ++ (([[(DV.v (Value.int IntKind.i64 (c27).1)), (DV.v (Value.int IntKind.i64 (0 : Int)))]]).take (1)))).take ((((((b93 ++ (([[(DV.v (Value.int IntKind.i64 (c24).1)), (DV.v (Value.int IntKind.i64 (0 : Int)))]]).take (1))) ++ (([[(DV.v (Value.int IntKind.i64 (c25).1)), (DV.v (Value.int IntKind.i64 (0 : Int)))]]).take (1))) ++ (([[(DV.v (Value.int IntKind.i64 (c26).1)), (DV.v (Value.int IntKind.i64 (0 : Int)))]]).take (1))) ++ (([[(DV.v (Value.int IntKind.i64 (c27).1)), (DV.v (Value.int IntKind.i64 (0 : Int)))]]).take (1)))).length)), ()))))))))))))) : H6 x0 x8 b60 b60_1 b76 b76_1 b93 c := head_rule (n := 400) (unSum_ok cfg 6 [40]) (by kernel_rfl) h
end links_Move
/-! garrison/links.are -/
namespace links_are
def lv : Live := []
theorem start (a0 : List (List DV)) (a1 : List (List DV)) (c : (Bool × Unit)) (h :
    cond (((((a0).length : Nat) : Int) == (4096 : Int))) (
      optAll (slices_ContainsFunc_api_Key_api_Key__links_are_1.R a1) fun (c0 : (Bool × Unit)) =>
      cond ((!(c0).1)) (
        cond (decide (((((a1).length : Nat) : Int) < (2 : Int)))) (
          c = (true, ())) (
          optAll ((a1)[0]?) fun (r1 : List DV) =>
          optAll ((dInt IntKind.i64 r1 0)) fun (z2 : Int) =>
          optAll ((dInt IntKind.i64 r1 1)) fun (z3 : Int) =>
          optAll ((a1)[1]?) fun (r4 : List DV) =>
          optAll ((dInt IntKind.i64 r4 0)) fun (z5 : Int) =>
          optAll ((dInt IntKind.i64 r4 1)) fun (z6 : Int) =>
          c = ((!((z2 == z5) && ((z3 == z6) && true))), ()))) (
        c = (false, ()))) (
      c = (false, ()))) : R a0 a1 = some c := start_rule (n := 400) (lv := lv) (noSum_ok _) (by kernel_rfl) h
end links_are
/-! garrison/links.at -/
namespace links_at
def lv : Live := []
theorem start (a0 : List (List DV)) (a1_0 : Int) (a1_1 : Int) (a2 : Int) (c : (Int × Unit)) (h :
    optAll (layout_Slot.R a1_0 a1_1 a2) fun (c0 : (Int × Unit)) =>
    cond (decide (((c0).1 < (0 : Int)))) (
      c = ((0 : Int), ())) (
      cond (((((a0).length : Nat) : Int) != (4096 : Int))) (
        c = ((0 : Int), ())) (
        needs ((0 : Int) ≤ (c0).1) (
        optAll ((a0)[(Int.toNat (c0).1)]?) fun (r1 : List DV) =>
        optAll ((dInt IntKind.i64 r1 0)) fun (z2 : Int) =>
        c = (z2, ()))))) : R a0 a1_0 a1_1 a2 = some c := start_rule (n := 400) (lv := lv) (noSum_ok _) (by kernel_rfl) h
end links_at
/-! garrison/links.code -/
namespace links_code
def lv : Live := []
theorem start (a0_0 : Int) (a0_1 : Int) (c : (Int × Unit)) (h :
    optAll (layout_Code.R a0_0 a0_1) fun (c0 : (Int × Unit)) =>
    c = ((c0).1, ())) : R a0_0 a0_1 = some c := start_rule (n := 400) (lv := lv) (noSum_ok _) (by kernel_rfl) h
end links_code
/-! garrison/layout.Slot -/
namespace layout_Slot
def lv : Live := []
theorem start (a0_0 : Int) (a0_1 : Int) (a1 : Int) (c : (Int × Unit)) (h :
    optAll (layout_Code.R a0_0 a0_1) fun (c0 : (Int × Unit)) =>
    cond (((c0).1 == (0 : Int))) (
      c = ((-1 : Int), ())) (
      cond (decide ((a1 < (0 : Int)))) (
        c = ((-1 : Int), ())) (
        cond (decide ((a1 ≥ (6 : Int)))) (
          c = ((-1 : Int), ())) (
          c = ((IntKind.i64.wrap ((IntKind.i64.wrap ((IntKind.i64.wrap ((IntKind.i64.wrap ((64 : Int) * a0_0)) + (16 : Int))) + (IntKind.i64.wrap ((6 : Int) * a0_1)))) + a1)), ()))))) : R a0_0 a0_1 a1 = some c := start_rule (n := 400) (lv := lv) (noSum_ok _) (by kernel_rfl) h
end layout_Slot
/-! garrison/links.Next -/
namespace links_Next
def lv : Live := []
theorem start (a0 : List (List DV)) (a1_0 : Int) (a1_1 : Int) (c : ((Int × (Int × Unit)) × (Bool × Unit))) (h :
    optAll (links_linked.R a0 a1_0 a1_1 (3 : Int)) fun (c0 : ((Int × (Int × Unit)) × (Bool × Unit))) =>
    c = ((((c0).1).1, ((((c0).1).2).1, ())), (((c0).2).1, ()))) : R a0 a1_0 a1_1 = some c := start_rule (n := 400) (lv := lv) (noSum_ok _) (by kernel_rfl) h
end links_Next
/-! garrison/links.Prev -/
namespace links_Prev
def lv : Live := []
theorem start (a0 : List (List DV)) (a1_0 : Int) (a1_1 : Int) (c : ((Int × (Int × Unit)) × (Bool × Unit))) (h :
    optAll (links_linked.R a0 a1_0 a1_1 (2 : Int)) fun (c0 : ((Int × (Int × Unit)) × (Bool × Unit))) =>
    c = ((((c0).1).1, ((((c0).1).2).1, ())), (((c0).2).1, ()))) : R a0 a1_0 a1_1 = some c := start_rule (n := 400) (lv := lv) (noSum_ok _) (by kernel_rfl) h
end links_Prev
/-! garrison/layout.Code -/
namespace layout_Code
def lv : Live := []
theorem start (a0_0 : Int) (a0_1 : Int) (c : (Int × Unit)) (h :
    cond (decide ((a0_0 < (0 : Int)))) (
      c = ((0 : Int), ())) (
      cond (decide ((a0_0 ≥ (56 : Int)))) (
        c = ((0 : Int), ())) (
        cond (decide ((a0_1 < (0 : Int)))) (
          c = ((0 : Int), ())) (
          cond (decide ((a0_1 ≥ (8 : Int)))) (
            c = ((0 : Int), ())) (
            c = ((IntKind.i64.wrap ((IntKind.i64.wrap ((IntKind.i64.wrap ((8 : Int) * a0_0)) + a0_1)) + (1 : Int))), ())))))) : R a0_0 a0_1 = some c := start_rule (n := 400) (lv := lv) (noSum_ok _) (by kernel_rfl) h
end layout_Code
/-! garrison/links.linked -/
namespace links_linked
def lv : Live := []
theorem start (a0 : List (List DV)) (a1_0 : Int) (a1_1 : Int) (a2 : Int) (c : ((Int × (Int × Unit)) × (Bool × Unit))) (h :
    optAll (links_at.R a0 a1_0 a1_1 a2) fun (c0 : (Int × Unit)) =>
    optAll (layout_Key.R (c0).1) fun (c1 : ((Int × (Int × Unit)) × (Int × Unit))) =>
    c = ((((c1).1).1, ((((c1).1).2).1, ())), ((((c1).2).1 == (0 : Int)), ()))) : R a0 a1_0 a1_1 a2 = some c := start_rule (n := 400) (lv := lv) (noSum_ok _) (by kernel_rfl) h
end links_linked
/-! garrison/layout.Key -/
namespace layout_Key
def lv : Live := []
theorem start (a0 : Int) (c : ((Int × (Int × Unit)) × (Int × Unit))) (h :
    cond (decide ((a0 < (1 : Int)))) (
      c = (((0 : Int), ((0 : Int), ())), ((2 : Int), ()))) (
      cond (decide ((a0 > (448 : Int)))) (
        c = (((0 : Int), ((0 : Int), ())), ((2 : Int), ()))) (
        c = (((IntKind.i64.wrap (Int.tdiv (IntKind.i64.wrap (a0 - (1 : Int))) (8 : Int))), ((Int.tmod (IntKind.i64.wrap (a0 - (1 : Int))) (8 : Int)), ())), ((0 : Int), ()))))) : R a0 = some c := start_rule (n := 400) (lv := lv) (noSum_ok _) (by kernel_rfl) h
end layout_Key
/-! garrison/links.are$1 -/
namespace links_are_1
def lv : Live := []
theorem start (a0_0 : Int) (a0_1 : Int) (c : (Bool × Unit)) (h :
    optAll (links_code.R a0_0 a0_1) fun (c0 : (Int × Unit)) =>
    c = (((c0).1 == (0 : Int)), ())) : R a0_0 a0_1 = some c := start_rule (n := 400) (lv := lv) (noSum_ok _) (by kernel_rfl) h
end links_are_1
/-! garrison/garrisonlaw24.live -/
namespace law24_live
def lv : Live := []
theorem start (c : (Bool × Unit)) (h :
    optAll (law24_key.R (0 : Int) (0 : Int)) fun (c0 : ((Int × (Int × Unit)) × Unit)) =>
    optAll (law24_key.R (0 : Int) (1 : Int)) fun (c1 : ((Int × (Int × Unit)) × Unit)) =>
    optAll (law24_cells.R (([[(DV.v (Value.int IntKind.i64 ((c0).1).1)), (DV.v (Value.int IntKind.i64 (((c0).1).2).1)), (DV.v (Value.int IntKind.i64 (0 : Int))), (DV.v (Value.bool false))], [(DV.v (Value.int IntKind.i64 ((c1).1).1)), (DV.v (Value.int IntKind.i64 (((c1).1).2).1)), (DV.v (Value.int IntKind.i64 (0 : Int))), (DV.v (Value.bool false))]]).take (2))) fun (c2 : (List (List DV) × Unit)) =>
    optAll (law24_key.R (0 : Int) (0 : Int)) fun (c3 : ((Int × (Int × Unit)) × Unit)) =>
    optAll (law24_key.R (0 : Int) (2 : Int)) fun (c4 : ((Int × (Int × Unit)) × Unit)) =>
    optAll (links_Insert.R (c2).1 ((c3).1).1 (((c3).1).2).1 ((c4).1).1 (((c4).1).2).1) fun (c5 : (List (List DV) × Unit)) =>
    optAll (layout_Apply.R (c2).1 (c5).1) fun (c6 : (List (List DV) × Unit)) =>
    optAll (law24_key.R (0 : Int) (0 : Int)) fun (c7 : ((Int × (Int × Unit)) × Unit)) =>
    optAll (links_Next.R (c6).1 ((c7).1).1 (((c7).1).2).1) fun (c8 : ((Int × (Int × Unit)) × (Bool × Unit))) =>
    optAll (law24_key.R (0 : Int) (1 : Int)) fun (c9 : ((Int × (Int × Unit)) × Unit)) =>
    optAll (links_Prev.R (c6).1 ((c9).1).1 (((c9).1).2).1) fun (c10 : ((Int × (Int × Unit)) × (Bool × Unit))) =>
    cond ((((((c5).1).length : Nat) : Int) == (6 : Int))) (
      cond (((c8).2).1) (
        cond (((c10).2).1) (
          optAll (law24_key.R (0 : Int) (2 : Int)) fun (c11 : ((Int × (Int × Unit)) × Unit)) =>
          cond (((((c8).1).1 == ((c11).1).1) && (((((c8).1).2).1 == (((c11).1).2).1) && true))) (
            cond (((((c10).1).1 == ((c8).1).1) && (((((c10).1).2).1 == (((c8).1).2).1) && true))) (
              optAll (law24_key.R (0 : Int) (0 : Int)) fun (c12 : ((Int × (Int × Unit)) × Unit)) =>
              optAll (links_Below.R (c6).1 ((c12).1).1 (((c12).1).2).1) fun (c13 : (List (List DV) × Unit)) =>
              optAll (ref06_Same.R (c13).1 (([[(DV.v (Value.int IntKind.i64 ((c8).1).1)), (DV.v (Value.int IntKind.i64 (((c8).1).2).1))]]).take (1))) fun (c14 : (Bool × Unit)) =>
              cond ((c14).1) (
                optAll (links_Leaf.R (c6).1 ((c8).1).1 (((c8).1).2).1) fun (c15 : (Bool × Unit)) =>
                cond ((c15).1) (
                  optAll (law24_key.R (0 : Int) (0 : Int)) fun (c16 : ((Int × (Int × Unit)) × Unit)) =>
                  optAll (links_Leaf.R (c6).1 ((c16).1).1 (((c16).1).2).1) fun (c17 : (Bool × Unit)) =>
                  cond ((!(c17).1)) (
                    optAll (links_Touched.R (c5).1) fun (c18 : (List (List DV) × Unit)) =>
                    cond ((((((c18).1).length : Nat) : Int) == (3 : Int))) (
                      optAll (links_Remove.R (c6).1 ((c8).1).1 (((c8).1).2).1) fun (c19 : (List (List DV) × Unit)) =>
                      cond ((((((c19).1).length : Nat) : Int) == (6 : Int))) (
                        optAll (law24_key.R (0 : Int) (3 : Int)) fun (c20 : ((Int × (Int × Unit)) × Unit)) =>
                        optAll (links_Move.R (c6).1 ((c8).1).1 (((c8).1).2).1 ((c20).1).1 (((c20).1).2).1) fun (c21 : (List (List DV) × Unit)) =>
                        cond ((((((c21).1).length : Nat) : Int) == (10 : Int))) (
                          optAll (links_Insert.R [] ((c8).1).1 (((c8).1).2).1 ((c10).1).1 (((c10).1).2).1) fun (c22 : (List (List DV) × Unit)) =>
                          c = ((((((c22).1).length : Nat) : Int) == (0 : Int)), ())) (
                          c = (false, ()))) (
                        c = (false, ()))) (
                      c = (false, ()))) (
                    c = (false, ()))) (
                  c = (false, ()))) (
                c = (false, ()))) (
              c = (false, ()))) (
            c = (false, ()))) (
          c = (false, ()))) (
        c = (false, ()))) (
      c = (false, ()))) : R = some c := start_rule (n := 400) (lv := lv) (noSum_ok _) (by kernel_rfl) h
end law24_live
/-! garrison/garrisonlaw24.key -/
namespace law24_key
def lv : Live := []
theorem start (a0 : Int) (a1 : Int) (c : ((Int × (Int × Unit)) × Unit)) (h :
    c = ((a0, (a1, ())), ())) : R a0 a1 = some c := start_rule (n := 400) (lv := lv) (noSum_ok _) (by kernel_rfl) h
end law24_key
/-! garrison/garrisonlaw24.cells -/
namespace law24_cells
def lv : Live := []
theorem start (a0 : List (List DV)) (c : (List (List DV) × Unit)) (h :
    optAll (ref17_New.R (1 : Int) (56 : Int) (64 : Int) (1 : Int)) fun (c0 : ((List (List DV) × (List (List DV) × (List (List DV) × (List (List DV) × (List (List DV) × (List (List DV) × (List (List DV) × (List (List DV) × Unit)))))))) × (Int × Unit))) =>
    optAll (ref23_Encode.R ((c0).1).1 (((c0).1).2).1 ((((c0).1).2).2).1 a0 ((((((c0).1).2).2).2).2).1 (((((((c0).1).2).2).2).2).2).1 ((((((((c0).1).2).2).2).2).2).2).1 (((((((((c0).1).2).2).2).2).2).2).2).1) fun (c1 : (List (List DV) × (Int × Unit))) =>
    c = ((c1).1, ())) : R a0 = some c := start_rule (n := 400) (lv := lv) (noSum_ok _) (by kernel_rfl) h
end law24_cells
/-! garrison/layout.Apply -/
namespace layout_Apply
def lv : Live := [((4, 1048576), [5, 10, 11, 12], [5])]
abbrev H4 (b5n : Nat) (x10 : List (List DV)) (x11 : Int) (x12 : Int) (b5 : List (List DV)) (c : (List (List DV) × Unit)) : Prop := HeadAns cfg 11 sh lv (bd cfg 11 [1, 1, 0, 1, 0, 0]) 1048576 [.inBlock 0, .code (bd cfg 11 [1, 1, 1])]
  [(AV.ref 5 0 0 b5n), (AV.d (DV.lst 2 x10)), (AV.d (DV.v (Value.int IntKind.i64 x11))), (AV.d (DV.v (Value.int IntKind.i64 x12)))] [(Option.some (VBlk.drow 1 0 b5))] 1048576 c
theorem start (a0 : List (List DV)) (a1 : List (List DV)) (c : (List (List DV) × Unit)) (h :
    needs ((((a0).length * 8) ≤ 140737488355328) ∧ (((a0).length * 1) ≤ 140737488355328)) (
    needs ((a0).length = (a0).length) (
    H4 (a0).length a1 (((a1).length : Nat) : Int) (0 : Int) a0 c))) : R a0 a1 = some c := start_rule (n := 400) (lv := lv) (noSum_ok _) (by kernel_rfl) h
theorem H4_step (b5n : Nat) (x10 : List (List DV)) (x11 : Int) (x12 : Int) (b5 : List (List DV)) (c : (List (List DV) × Unit)) (h :
    cond (decide ((x12 < x11))) (
      needs ((0 : Int) ≤ x12) (
      optAll ((x10)[(Int.toNat x12)]?) fun (r0 : List DV) =>
      optAll ((dInt IntKind.i64 r0 0)) fun (z1 : Int) =>
      optAll ((dInt IntKind.i64 r0 1)) fun (z2 : Int) =>
      cond (decide ((z1 ≥ (0 : Int)))) (
        cond (decide ((z1 < ((b5n : Nat) : Int)))) (
          needs (((0 : Int) ≤ z1) ∧ (z1 < ((b5n : Nat) : Int))) (
          optAll ((b5)[(0 + (Int.toNat z1))]?) fun (r3 : List DV) =>
          needs (1 ≤ (r3).length) (
          H4 b5n x10 x11 (IntKind.i64.wrap (x12 + (1 : Int))) ((b5).set ((0 + (Int.toNat z1))) (putD r3 0 [(DV.v (Value.int IntKind.i64 z2))])) c))) (
          H4 b5n x10 x11 (IntKind.i64.wrap (x12 + (1 : Int))) b5 c)) (
        H4 b5n x10 x11 (IntKind.i64.wrap (x12 + (1 : Int))) b5 c))) (
      c = (((b5).take (b5n)), ()))) : H4 b5n x10 x11 x12 b5 c := head_rule (n := 400) (noSum_ok _) (by kernel_rfl) h
end layout_Apply
/-! garrison/links.Below -/
namespace links_Below
def lv : Live := [((4, 1048576), [0, 4, 5, 6, 7], [4, 234]), ((4, 1048576), [0, 4, 5, 6, 7], [4, 234])]
abbrev H4 (x0 : List (List DV)) (b4 : List (List DV)) (x5 : Int) (x7 : Bool) (b234 : Int) (b234_1 : Int) (c : (List (List DV) × Unit)) : Prop := HeadAns cfg 19 sh lv (bd cfg 19 [1, 1, 0, 1, 0, 0]) 1048576 [.inBlock 0, .code (bd cfg 19 [1, 1, 1])]
  [(AV.d (DV.lst 1 x0)), (AV.ref 4 0 0 (List.length b4)), (AV.d (DV.v (Value.int IntKind.i64 x5))), (AV.ptr 234 0 0 0), (AV.d (DV.v (Value.bool x7)))] [(Option.some (VBlk.drow 2 0 b4)), (Option.some (VBlk.cell 2 0 [(AV.d (DV.v (Value.int IntKind.i64 b234))), (AV.d (DV.v (Value.int IntKind.i64 b234_1)))]))] 1048576 c
abbrev H4_1048576 (x0 : List (List DV)) (b4 : List (List DV)) (x5 : Int) (x6 : List DV) (x7 : Bool) (b234 : Int) (b234_1 : Int) (c : (List (List DV) × Unit)) : Prop := HeadAns cfg 19 sh lv (bd cfg 19 [1, 1, 0, 1, 0, 0]) 1048576 [.inBlock 0, .code (bd cfg 19 [1, 1, 1])]
  [(AV.d (DV.lst 1 x0)), (AV.ref 4 0 0 (List.length b4)), (AV.d (DV.v (Value.int IntKind.i64 x5))), (AV.d (DV.ptr x6 0)), (AV.d (DV.v (Value.bool x7)))] [(Option.some (VBlk.drow 2 0 b4)), (Option.some (VBlk.cell 2 0 [(AV.d (DV.v (Value.int IntKind.i64 b234))), (AV.d (DV.v (Value.int IntKind.i64 b234_1)))]))] 1048576 c
theorem start (a0 : List (List DV)) (a1_0 : Int) (a1_1 : Int) (c : (List (List DV) × Unit)) (h :
    optAll (links_at.R a0 a1_0 a1_1 (4 : Int)) fun (c0 : (Int × Unit)) =>
    optAll (links_Next.R a0 a1_0 a1_1) fun (c1 : ((Int × (Int × Unit)) × (Bool × Unit))) =>
    H4 a0 [] (c0).1 ((c1).2).1 ((c1).1).1 (((c1).1).2).1 c) : R a0 a1_0 a1_1 = some c := start_rule (n := 400) (lv := lv) (noSum_ok _) (by kernel_rfl) h
theorem H4_step (x0 : List (List DV)) (b4 : List (List DV)) (x5 : Int) (x7 : Bool) (b234 : Int) (b234_1 : Int) (c : (List (List DV) × Unit)) (h :
    cond (x7) (
      optAll (links_at.R x0 b234 b234_1 (4 : Int)) fun (c2 : (Int × Unit)) =>
      cond (decide (((c2).1 > x5))) (
        cond (decide (((((b4).length : Nat) : Int) < (448 : Int)))) (
          needs ((b4).length = (b4).length) (
          needs (((((b4 ++ (([[(DV.v (Value.int IntKind.i64 b234)), (DV.v (Value.int IntKind.i64 b234_1))]]).take (1)))).length * 16) ≤ 140737488355328) ∧ ((((b4 ++ (([[(DV.v (Value.int IntKind.i64 b234)), (DV.v (Value.int IntKind.i64 b234_1))]]).take (1)))).length * 2) ≤ 140737488355328)) (
          optAll (links_Next.R x0 b234 b234_1) fun (c3 : ((Int × (Int × Unit)) × (Bool × Unit))) =>
          H4_1048576 x0 (b4 ++ (([[(DV.v (Value.int IntKind.i64 b234)), (DV.v (Value.int IntKind.i64 b234_1))]]).take (1))) x5 [(DV.v (Value.int IntKind.i64 ((c3).1).1)), (DV.v (Value.int IntKind.i64 (((c3).1).2).1))] ((c3).2).1 b234 b234_1 c))) (
          c = (((b4).take ((b4).length)), ()))) (
        c = (((b4).take ((b4).length)), ()))) (
      c = (((b4).take ((b4).length)), ()))) : H4 x0 b4 x5 x7 b234 b234_1 c := head_rule (n := 400) (noSum_ok _) (by kernel_rfl) h
theorem H4_1048576_step (x0 : List (List DV)) (b4 : List (List DV)) (x5 : Int) (x6 : List DV) (x7 : Bool) (b234 : Int) (b234_1 : Int) (c : (List (List DV) × Unit)) (h :
    cond (x7) (
      optAll ((dInt IntKind.i64 x6 0)) fun (z4 : Int) =>
      optAll ((dInt IntKind.i64 x6 1)) fun (z5 : Int) =>
      optAll (links_at.R x0 z4 z5 (4 : Int)) fun (c6 : (Int × Unit)) =>
      cond (decide (((c6).1 > x5))) (
        cond (decide (((((b4).length : Nat) : Int) < (448 : Int)))) (
          optAll ((dInt IntKind.i64 x6 0)) fun (z7 : Int) =>
          optAll ((dInt IntKind.i64 x6 1)) fun (z8 : Int) =>
          needs ((b4).length = (b4).length) (
          needs (((((b4 ++ (([[(DV.v (Value.int IntKind.i64 z7)), (DV.v (Value.int IntKind.i64 z8))]]).take (1)))).length * 16) ≤ 140737488355328) ∧ ((((b4 ++ (([[(DV.v (Value.int IntKind.i64 z7)), (DV.v (Value.int IntKind.i64 z8))]]).take (1)))).length * 2) ≤ 140737488355328)) (
          optAll ((dInt IntKind.i64 x6 0)) fun (z9 : Int) =>
          optAll ((dInt IntKind.i64 x6 1)) fun (z10 : Int) =>
          optAll (links_Next.R x0 z9 z10) fun (c11 : ((Int × (Int × Unit)) × (Bool × Unit))) =>
          H4_1048576 x0 (b4 ++ (([[(DV.v (Value.int IntKind.i64 z7)), (DV.v (Value.int IntKind.i64 z8))]]).take (1))) x5 [(DV.v (Value.int IntKind.i64 ((c11).1).1)), (DV.v (Value.int IntKind.i64 (((c11).1).2).1))] ((c11).2).1 b234 b234_1 c))) (
          c = (((b4).take ((b4).length)), ()))) (
        c = (((b4).take ((b4).length)), ()))) (
      c = (((b4).take ((b4).length)), ()))) : H4_1048576 x0 b4 x5 x6 x7 b234 b234_1 c := head_rule (n := 400) (noSum_ok _) (by kernel_rfl) h
end links_Below
/-! garrison/garrisonref06.Same -/
namespace ref06_Same
def lv : Live := [((5, 1048576), [0, 1, 5], [])]
abbrev H5 (x0 : List (List DV)) (x1 : List (List DV)) (x5 : Int) (c : (Bool × Unit)) : Prop := HeadAns cfg 18 sh lv (bd cfg 18 [1, 1, 0, 1, 0, 0]) 1048576 [.inBlock 0, .code (bd cfg 18 [1, 1, 1])]
  [(AV.d (DV.lst 2 x0)), (AV.d (DV.lst 2 x1)), (AV.d (DV.v (Value.int IntKind.i64 x5)))] [] 1048576 c
theorem start (a0 : List (List DV)) (a1 : List (List DV)) (c : (Bool × Unit)) (h :
    cond (((((a0).length : Nat) : Int) != (((a1).length : Nat) : Int))) (
      c = (false, ())) (
      H5 a0 a1 (0 : Int) c)) : R a0 a1 = some c := start_rule (n := 400) (lv := lv) (noSum_ok _) (by kernel_rfl) h
theorem H5_step (x0 : List (List DV)) (x1 : List (List DV)) (x5 : Int) (c : (Bool × Unit)) (h :
    cond (decide ((x5 < (((x0).length : Nat) : Int)))) (
      needs ((0 : Int) ≤ x5) (
      optAll ((x0)[(Int.toNat x5)]?) fun (r0 : List DV) =>
      optAll ((dInt IntKind.i64 r0 0)) fun (z1 : Int) =>
      optAll ((dInt IntKind.i64 r0 1)) fun (z2 : Int) =>
      needs ((0 : Int) ≤ x5) (
      optAll ((x1)[(Int.toNat x5)]?) fun (r3 : List DV) =>
      optAll ((dInt IntKind.i64 r3 0)) fun (z4 : Int) =>
      optAll ((dInt IntKind.i64 r3 1)) fun (z5 : Int) =>
      cond ((!((z1 == z4) && ((z2 == z5) && true)))) (
        c = (false, ())) (
        H5 x0 x1 (IntKind.i64.wrap (x5 + (1 : Int))) c)))) (
      c = (true, ()))) : H5 x0 x1 x5 c := head_rule (n := 400) (noSum_ok _) (by kernel_rfl) h
end ref06_Same
/-! garrison/links.Leaf -/
namespace links_Leaf
def lv : Live := []
theorem start (a0 : List (List DV)) (a1_0 : Int) (a1_1 : Int) (c : (Bool × Unit)) (h :
    optAll (links_Next.R a0 a1_0 a1_1) fun (c0 : ((Int × (Int × Unit)) × (Bool × Unit))) =>
    cond ((!((c0).2).1)) (
      c = (true, ())) (
      optAll (links_at.R a0 ((c0).1).1 (((c0).1).2).1 (4 : Int)) fun (c1 : (Int × Unit)) =>
      optAll (links_at.R a0 a1_0 a1_1 (4 : Int)) fun (c2 : (Int × Unit)) =>
      c = (decide (((c1).1 ≤ (c2).1)), ()))) : R a0 a1_0 a1_1 = some c := start_rule (n := 400) (lv := lv) (noSum_ok _) (by kernel_rfl) h
end links_Leaf
/-! garrison/links.Touched -/
namespace links_Touched
def lv : Live := [((3, 1048576), [2, 6, 7, 8], [2])]
abbrev H3 (b2 : List (List DV)) (x6 : List (List DV)) (x7 : Int) (x8 : Int) (c : (List (List DV) × Unit)) : Prop := HeadAns cfg 26 sh lv (bd cfg 26 [1, 0, 1, 0, 0]) 1048576 [.inBlock 0, .code (bd cfg 26 [1, 1])]
  [(AV.ref 2 0 0 (List.length b2)), (AV.d (DV.lst 2 x6)), (AV.d (DV.v (Value.int IntKind.i64 x7))), (AV.d (DV.v (Value.int IntKind.i64 x8)))] [(Option.some (VBlk.drow 1 0 b2))] 1048576 c
theorem start (a0 : List (List DV)) (c : (List (List DV) × Unit)) (h :
    H3 [] a0 (((a0).length : Nat) : Int) (0 : Int) c) : R a0 = some c := start_rule (n := 400) (lv := lv) (noSum_ok _) (by kernel_rfl) h
theorem H3_step (b2 : List (List DV)) (x6 : List (List DV)) (x7 : Int) (x8 : Int) (c : (List (List DV) × Unit)) (h :
    cond (decide ((x8 < x7))) (
      needs ((0 : Int) ≤ x8) (
      optAll ((x6)[(Int.toNat x8)]?) fun (r0 : List DV) =>
      optAll ((dInt IntKind.i64 r0 0)) fun (z1 : Int) =>
      optAll ((dInt IntKind.i64 r0 1)) fun (z2 : Int) =>
      optAll (layout_Guard.R z1) fun (c3 : (Int × Unit)) =>
      cond (decide (((c3).1 ≥ (0 : Int)))) (
        needs ((b2).length = (b2).length) (
        needs (((((b2 ++ (([[(DV.v (Value.int IntKind.i64 (c3).1))]]).take (1)))).length * 8) ≤ 140737488355328) ∧ ((((b2 ++ (([[(DV.v (Value.int IntKind.i64 (c3).1))]]).take (1)))).length * 1) ≤ 140737488355328)) (
        H3 (b2 ++ (([[(DV.v (Value.int IntKind.i64 (c3).1))]]).take (1))) x6 x7 (IntKind.i64.wrap (x8 + (1 : Int))) c))) (
        H3 b2 x6 x7 (IntKind.i64.wrap (x8 + (1 : Int))) c))) (
      needs ((0 = 0) ∧ (((b2).length = (b2).length) ∧ ((b2).length < 4611686018427387904))) (
      optAll ((mapO asCellD b2)) fun (l4 : List Int) =>
      needs ((0 = 0) ∧ (((b2).length = ((List.map cellOfD (isort l4))).length) ∧ (((List.map cellOfD (isort l4))).length < 4611686018427387904))) (
      optAll ((mapO asCellD (List.map cellOfD (isort l4)))) fun (l5 : List Int) =>
      c = ((((List.map cellOfD ((Lib.compact l5) ++ (List.replicate (((l5).length - ((Lib.compact l5)).length)) (0 : Int))))).take (((Lib.compact l5)).length)), ()))))) : H3 b2 x6 x7 x8 c := head_rule (n := 400) (noSum_ok _) (by kernel_rfl) h
end links_Touched
/-! garrison/layout.Guard -/
namespace layout_Guard
def lv : Live := []
theorem start (a0 : Int) (c : (Int × Unit)) (h :
    cond ((a0 == (4095 : Int))) (
      c = (a0, ())) (
      cond (decide ((a0 < (0 : Int)))) (
        c = ((-1 : Int), ())) (
        cond (decide ((a0 ≥ (4080 : Int)))) (
          c = ((-1 : Int), ())) (
          cond (decide ((a0 ≥ (3584 : Int)))) (
            optAll (layout_Core.R (IntKind.i64.wrap (Int.tdiv (IntKind.i64.wrap (a0 - (3584 : Int))) (16 : Int))) (15 : Int)) fun (c0 : (Int × Unit)) =>
            c = ((c0).1, ())) (
            cond (decide (((Int.tmod a0 (64 : Int)) < (16 : Int)))) (
              optAll (layout_Object.R (IntKind.i64.wrap (Int.tdiv a0 (64 : Int))) (0 : Int)) fun (c1 : (Int × Unit)) =>
              c = ((c1).1, ())) (
              optAll (layout_Slot.R (IntKind.i64.wrap (Int.tdiv a0 (64 : Int))) (IntKind.i64.wrap (Int.tdiv (IntKind.i64.wrap ((Int.tmod a0 (64 : Int)) - (16 : Int))) (6 : Int))) (0 : Int)) fun (c2 : (Int × Unit)) =>
              c = ((c2).1, ()))))))) : R a0 = some c := start_rule (n := 400) (lv := lv) (noSum_ok _) (by kernel_rfl) h
end layout_Guard
/-! garrison/garrisonref23.Code -/
namespace ref23_Code
def lv : Live := []
theorem start (a0_0 : Int) (a0_1 : Int) (c : (Int × Unit)) (h :
    cond (decide ((a0_0 < (0 : Int)))) (
      c = ((0 : Int), ())) (
      cond (decide ((a0_0 ≥ (56 : Int)))) (
        c = ((0 : Int), ())) (
        cond (decide ((a0_1 < (0 : Int)))) (
          c = ((0 : Int), ())) (
          cond (decide ((a0_1 ≥ (8 : Int)))) (
            c = ((0 : Int), ())) (
            c = ((IntKind.i64.wrap ((IntKind.i64.wrap ((IntKind.i64.wrap ((8 : Int) * a0_0)) + a0_1)) + (1 : Int))), ())))))) : R a0_0 a0_1 = some c := start_rule (n := 400) (lv := lv) (noSum_ok _) (by kernel_rfl) h
end ref23_Code
/-! garrison/garrisonref23.Slot -/
namespace ref23_Slot
def lv : Live := []
theorem start (a0_0 : Int) (a0_1 : Int) (a1 : Int) (c : (Int × Unit)) (h :
    optAll (ref23_Code.R a0_0 a0_1) fun (c0 : (Int × Unit)) =>
    cond (((c0).1 == (0 : Int))) (
      c = ((-1 : Int), ())) (
      cond (decide ((a1 < (0 : Int)))) (
        c = ((-1 : Int), ())) (
        cond (decide ((a1 > (5 : Int)))) (
          c = ((-1 : Int), ())) (
          c = ((IntKind.i64.wrap ((IntKind.i64.wrap ((IntKind.i64.wrap ((IntKind.i64.wrap ((64 : Int) * a0_0)) + (16 : Int))) + (IntKind.i64.wrap ((6 : Int) * a0_1)))) + a1)), ()))))) : R a0_0 a0_1 a1 = some c := start_rule (n := 400) (lv := lv) (noSum_ok _) (by kernel_rfl) h
end ref23_Slot
/-! garrison/layout.Core -/
namespace layout_Core
def lv : Live := []
theorem start (a0 : Int) (a1 : Int) (c : (Int × Unit)) (h :
    cond (decide ((a0 < (0 : Int)))) (
      c = ((-1 : Int), ())) (
      cond (decide ((a0 ≥ (31 : Int)))) (
        c = ((-1 : Int), ())) (
        cond (decide ((a1 < (0 : Int)))) (
          c = ((-1 : Int), ())) (
          cond (decide ((a1 ≥ (16 : Int)))) (
            c = ((-1 : Int), ())) (
            c = ((IntKind.i64.wrap ((IntKind.i64.wrap ((3584 : Int) + (IntKind.i64.wrap ((16 : Int) * a0)))) + a1)), ())))))) : R a0 a1 = some c := start_rule (n := 400) (lv := lv) (noSum_ok _) (by kernel_rfl) h
end layout_Core
/-! garrison/layout.Object -/
namespace layout_Object
def lv : Live := []
theorem start (a0 : Int) (a1 : Int) (c : (Int × Unit)) (h :
    cond (decide ((a0 < (0 : Int)))) (
      c = ((-1 : Int), ())) (
      cond (decide ((a0 ≥ (56 : Int)))) (
        c = ((-1 : Int), ())) (
        cond (decide ((a1 < (0 : Int)))) (
          c = ((-1 : Int), ())) (
          cond (decide ((a1 ≥ (16 : Int)))) (
            c = ((-1 : Int), ())) (
            c = ((IntKind.i64.wrap ((IntKind.i64.wrap ((64 : Int) * a0)) + a1)), ())))))) : R a0 a1 = some c := start_rule (n := 400) (lv := lv) (noSum_ok _) (by kernel_rfl) h
end layout_Object
/-! garrison/garrisonlaw24.LinksTree -/
namespace law24_LinksTree
def lv : Live := [((6, 1048576), [4, 5, 7, 8], [128, 144])]
abbrev H6 (x7 : List (List DV)) (x8 : Int) (b128 : Int) (b128_1 : Int) (b144 : Int) (b144_1 : Int) (c : (Bool × Unit)) : Prop := HeadAns cfg 3 sh lv (bd cfg 3 [1, 1, 1, 0, 1, 0, 0]) 1048576 [.inBlock 0, .code (bd cfg 3 [1, 1, 1, 1])]
  [(AV.ptr 128 0 0 0), (AV.ptr 144 0 0 0), (AV.d (DV.lst 4 x7)), (AV.d (DV.v (Value.int IntKind.i64 x8)))] [(Option.some (VBlk.cell 2 0 [(AV.d (DV.v (Value.int IntKind.i64 b128))), (AV.d (DV.v (Value.int IntKind.i64 b128_1)))])), (Option.some (VBlk.cell 2 0 [(AV.d (DV.v (Value.int IntKind.i64 b144))), (AV.d (DV.v (Value.int IntKind.i64 b144_1)))]))] 1048576 c
theorem start (a0 : List (List DV)) (a1_0 : Int) (a1_1 : Int) (a2_0 : Int) (a2_1 : Int) (c : (Bool × Unit)) (h :
    cond (decide (((((a0).length : Nat) : Int) > (60 : Int)))) (
      optAll (law24_live.R) fun (c0 : (Bool × Unit)) =>
      c = ((c0).1, ())) (
      cond (decide ((a1_0 > (3 : Int)))) (
        optAll (law24_live.R) fun (c1 : (Bool × Unit)) =>
        c = ((c1).1, ())) (
        cond (decide ((a2_0 > (3 : Int)))) (
          optAll (law24_live.R) fun (c2 : (Bool × Unit)) =>
          c = ((c2).1, ())) (
          optAll (ref23_Code.R a1_0 a1_1) fun (c3 : (Int × Unit)) =>
          cond (((c3).1 == (0 : Int))) (
            optAll (law24_live.R) fun (c4 : (Bool × Unit)) =>
            c = ((c4).1, ())) (
            optAll (ref23_Code.R a2_0 a2_1) fun (c5 : (Int × Unit)) =>
            cond (((c5).1 == (0 : Int))) (
              optAll (law24_live.R) fun (c6 : (Bool × Unit)) =>
              c = ((c6).1, ())) (
              optAll (law24_grown.R a0) fun (c7 : (List (List DV) × Unit)) =>
              H6 (c7).1 (0 : Int) a1_0 a1_1 a2_0 a2_1 c)))))) : R a0 a1_0 a1_1 a2_0 a2_1 = some c := start_rule (n := 400) (lv := lv) (noSum_ok _) (by kernel_rfl) h
theorem H6_step (x7 : List (List DV)) (x8 : Int) (b128 : Int) (b128_1 : Int) (b144 : Int) (b144_1 : Int) (c : (Bool × Unit)) (h :
    cond (decide ((x8 < (((x7).length : Nat) : Int)))) (
      needs ((0 : Int) ≤ x8) (
      optAll ((x7)[(Int.toNat x8)]?) fun (r8 : List DV) =>
      optAll ((dInt IntKind.i64 r8 0)) fun (z9 : Int) =>
      cond (decide ((z9 > (3 : Int)))) (
        optAll (law24_live.R) fun (c10 : (Bool × Unit)) =>
        c = ((c10).1, ())) (
        H6 x7 (IntKind.i64.wrap (x8 + (1 : Int))) b128 b128_1 b144 b144_1 c))) (
      optAll (law24_cells.R x7) fun (c11 : (List (List DV) × Unit)) =>
      optAll (tree_Insert.R x7 b128 b128_1 b144 b144_1) fun (c12 : (List (List DV) × (Int × Unit))) =>
      cond ((((c12).2).1 == (0 : Int))) (
        optAll (links_Insert.R (c11).1 b128 b128_1 b144 b144_1) fun (c13 : (List (List DV) × Unit)) =>
        optAll (layout_Apply.R (c11).1 (c13).1) fun (c14 : (List (List DV) × Unit)) =>
        optAll (law24_alike.R (c14).1 (c12).1) fun (c15 : (Bool × Unit)) =>
        cond ((!(c15).1)) (
          c = (false, ())) (
          optAll (tree_Remove.R x7 b128 b128_1) fun (c16 : (List (List DV) × (Int × Unit))) =>
          cond ((((c16).2).1 == (0 : Int))) (
            optAll (links_Leaf.R (c11).1 b128 b128_1) fun (c17 : (Bool × Unit)) =>
            cond ((!(c17).1)) (
              c = (false, ())) (
              optAll (links_Remove.R (c11).1 b128 b128_1) fun (c18 : (List (List DV) × Unit)) =>
              optAll (layout_Apply.R (c11).1 (c18).1) fun (c19 : (List (List DV) × Unit)) =>
              optAll (law24_alike.R (c19).1 (c16).1) fun (c20 : (Bool × Unit)) =>
              cond ((!(c20).1)) (
                c = (false, ())) (
                optAll (tree_Move.R x7 b128 b128_1 b144 b144_1) fun (c21 : (List (List DV) × (Int × Unit))) =>
                cond ((((c21).2).1 == (0 : Int))) (
                  optAll (links_Move.R (c11).1 b128 b128_1 b144 b144_1) fun (c22 : (List (List DV) × Unit)) =>
                  optAll (layout_Apply.R (c11).1 (c22).1) fun (c23 : (List (List DV) × Unit)) =>
                  optAll (law24_alike.R (c23).1 (c21).1) fun (c24 : (Bool × Unit)) =>
                  cond ((!(c24).1)) (
                    c = (false, ())) (
                    optAll (links_Below.R (c11).1 b128 b128_1) fun (c25 : (List (List DV) × Unit)) =>
                    optAll (ref13_Below.R x7 b128 b128_1) fun (c26 : (List (List DV) × Unit)) =>
                    optAll (ref06_Same.R (c25).1 (c26).1) fun (c27 : (Bool × Unit)) =>
                    cond ((c27).1) (
                      optAll (law24_live.R) fun (c28 : (Bool × Unit)) =>
                      c = ((c28).1, ())) (
                      c = (false, ())))) (
                  optAll (links_Below.R (c11).1 b128 b128_1) fun (c29 : (List (List DV) × Unit)) =>
                  optAll (ref13_Below.R x7 b128 b128_1) fun (c30 : (List (List DV) × Unit)) =>
                  optAll (ref06_Same.R (c29).1 (c30).1) fun (c31 : (Bool × Unit)) =>
                  cond ((c31).1) (
                    optAll (law24_live.R) fun (c32 : (Bool × Unit)) =>
                    c = ((c32).1, ())) (
                    c = (false, ())))))) (
            optAll (tree_Move.R x7 b128 b128_1 b144 b144_1) fun (c33 : (List (List DV) × (Int × Unit))) =>
            cond ((((c33).2).1 == (0 : Int))) (
              optAll (links_Move.R (c11).1 b128 b128_1 b144 b144_1) fun (c34 : (List (List DV) × Unit)) =>
              optAll (layout_Apply.R (c11).1 (c34).1) fun (c35 : (List (List DV) × Unit)) =>
              optAll (law24_alike.R (c35).1 (c33).1) fun (c36 : (Bool × Unit)) =>
              cond ((!(c36).1)) (
                c = (false, ())) (
                optAll (links_Below.R (c11).1 b128 b128_1) fun (c37 : (List (List DV) × Unit)) =>
                optAll (ref13_Below.R x7 b128 b128_1) fun (c38 : (List (List DV) × Unit)) =>
                optAll (ref06_Same.R (c37).1 (c38).1) fun (c39 : (Bool × Unit)) =>
                cond ((c39).1) (
                  optAll (law24_live.R) fun (c40 : (Bool × Unit)) =>
                  c = ((c40).1, ())) (
                  c = (false, ())))) (
              optAll (links_Below.R (c11).1 b128 b128_1) fun (c41 : (List (List DV) × Unit)) =>
              optAll (ref13_Below.R x7 b128 b128_1) fun (c42 : (List (List DV) × Unit)) =>
              optAll (ref06_Same.R (c41).1 (c42).1) fun (c43 : (Bool × Unit)) =>
              cond ((c43).1) (
                optAll (law24_live.R) fun (c44 : (Bool × Unit)) =>
                c = ((c44).1, ())) (
                c = (false, ())))))) (
        optAll (tree_Remove.R x7 b128 b128_1) fun (c45 : (List (List DV) × (Int × Unit))) =>
        cond ((((c45).2).1 == (0 : Int))) (
          optAll (links_Leaf.R (c11).1 b128 b128_1) fun (c46 : (Bool × Unit)) =>
          cond ((!(c46).1)) (
            c = (false, ())) (
            optAll (links_Remove.R (c11).1 b128 b128_1) fun (c47 : (List (List DV) × Unit)) =>
            optAll (layout_Apply.R (c11).1 (c47).1) fun (c48 : (List (List DV) × Unit)) =>
            optAll (law24_alike.R (c48).1 (c45).1) fun (c49 : (Bool × Unit)) =>
            cond ((!(c49).1)) (
              c = (false, ())) (
              optAll (tree_Move.R x7 b128 b128_1 b144 b144_1) fun (c50 : (List (List DV) × (Int × Unit))) =>
              cond ((((c50).2).1 == (0 : Int))) (
                optAll (links_Move.R (c11).1 b128 b128_1 b144 b144_1) fun (c51 : (List (List DV) × Unit)) =>
                optAll (layout_Apply.R (c11).1 (c51).1) fun (c52 : (List (List DV) × Unit)) =>
                optAll (law24_alike.R (c52).1 (c50).1) fun (c53 : (Bool × Unit)) =>
                cond ((!(c53).1)) (
                  c = (false, ())) (
                  optAll (links_Below.R (c11).1 b128 b128_1) fun (c54 : (List (List DV) × Unit)) =>
                  optAll (ref13_Below.R x7 b128 b128_1) fun (c55 : (List (List DV) × Unit)) =>
                  optAll (ref06_Same.R (c54).1 (c55).1) fun (c56 : (Bool × Unit)) =>
                  cond ((c56).1) (
                    optAll (law24_live.R) fun (c57 : (Bool × Unit)) =>
                    c = ((c57).1, ())) (
                    c = (false, ())))) (
                optAll (links_Below.R (c11).1 b128 b128_1) fun (c58 : (List (List DV) × Unit)) =>
                optAll (ref13_Below.R x7 b128 b128_1) fun (c59 : (List (List DV) × Unit)) =>
                optAll (ref06_Same.R (c58).1 (c59).1) fun (c60 : (Bool × Unit)) =>
                cond ((c60).1) (
                  optAll (law24_live.R) fun (c61 : (Bool × Unit)) =>
                  c = ((c61).1, ())) (
                  c = (false, ())))))) (
          optAll (tree_Move.R x7 b128 b128_1 b144 b144_1) fun (c62 : (List (List DV) × (Int × Unit))) =>
          cond ((((c62).2).1 == (0 : Int))) (
            optAll (links_Move.R (c11).1 b128 b128_1 b144 b144_1) fun (c63 : (List (List DV) × Unit)) =>
            optAll (layout_Apply.R (c11).1 (c63).1) fun (c64 : (List (List DV) × Unit)) =>
            optAll (law24_alike.R (c64).1 (c62).1) fun (c65 : (Bool × Unit)) =>
            cond ((!(c65).1)) (
              c = (false, ())) (
              optAll (links_Below.R (c11).1 b128 b128_1) fun (c66 : (List (List DV) × Unit)) =>
              optAll (ref13_Below.R x7 b128 b128_1) fun (c67 : (List (List DV) × Unit)) =>
              optAll (ref06_Same.R (c66).1 (c67).1) fun (c68 : (Bool × Unit)) =>
              cond ((c68).1) (
                optAll (law24_live.R) fun (c69 : (Bool × Unit)) =>
                c = ((c69).1, ())) (
                c = (false, ())))) (
            optAll (links_Below.R (c11).1 b128 b128_1) fun (c70 : (List (List DV) × Unit)) =>
            optAll (ref13_Below.R x7 b128 b128_1) fun (c71 : (List (List DV) × Unit)) =>
            optAll (ref06_Same.R (c70).1 (c71).1) fun (c72 : (Bool × Unit)) =>
            cond ((c72).1) (
              optAll (law24_live.R) fun (c73 : (Bool × Unit)) =>
              c = ((c73).1, ())) (
              c = (false, ()))))))) : H6 x7 x8 b128 b128_1 b144 b144_1 c := head_rule (n := 400) (noSum_ok _) (by kernel_rfl) h
end law24_LinksTree
/-! garrison/garrisonlaw24.LinksBack -/
namespace law24_LinksBack
def lv : Live := []
theorem start (a0 : List (List DV)) (a1_0 : Int) (a1_1 : Int) (a2_0 : Int) (a2_1 : Int) (c : (Bool × Unit)) (h :
    cond (decide (((((a0).length : Nat) : Int) > (60 : Int)))) (
      optAll (law24_live.R) fun (c0 : (Bool × Unit)) =>
      c = ((c0).1, ())) (
      optAll (law24_grown.R a0) fun (c1 : (List (List DV) × Unit)) =>
      optAll (law24_cells.R (c1).1) fun (c2 : (List (List DV) × Unit)) =>
      optAll (tree_Find.R (c1).1 a1_0 a1_1) fun (c3 : (Int × (Bool × Unit))) =>
      optAll (tree_Find.R (c1).1 a2_0 a2_1) fun (c4 : (Int × (Bool × Unit))) =>
      cond ((!((c3).2).1)) (
        optAll (law24_live.R) fun (c5 : (Bool × Unit)) =>
        c = ((c5).1, ())) (
        cond (((c4).2).1) (
          optAll (law24_live.R) fun (c6 : (Bool × Unit)) =>
          c = ((c6).1, ())) (
          optAll (ref23_Code.R a2_0 a2_1) fun (c7 : (Int × Unit)) =>
          cond (((c7).1 == (0 : Int))) (
            optAll (law24_live.R) fun (c8 : (Bool × Unit)) =>
            c = ((c8).1, ())) (
            optAll (ref23_Code.R a1_0 a1_1) fun (c9 : (Int × Unit)) =>
            cond (((c9).1 == (0 : Int))) (
              optAll (law24_live.R) fun (c10 : (Bool × Unit)) =>
              c = ((c10).1, ())) (
              optAll (links_Insert.R (c2).1 a1_0 a1_1 a2_0 a2_1) fun (c11 : (List (List DV) × Unit)) =>
              optAll (layout_Apply.R (c2).1 (c11).1) fun (c12 : (List (List DV) × Unit)) =>
              optAll (links_Remove.R (c12).1 a2_0 a2_1) fun (c13 : (List (List DV) × Unit)) =>
              optAll (layout_Apply.R (c12).1 (c13).1) fun (c14 : (List (List DV) × Unit)) =>
              optAll (links_Move.R (c2).1 a1_0 a1_1 a2_0 a2_1) fun (c15 : (List (List DV) × Unit)) =>
              optAll (layout_Apply.R (c2).1 (c15).1) fun (c16 : (List (List DV) × Unit)) =>
              optAll (links_Move.R (c16).1 a2_0 a2_1 a1_0 a1_1) fun (c17 : (List (List DV) × Unit)) =>
              optAll (layout_Apply.R (c16).1 (c17).1) fun (c18 : (List (List DV) × Unit)) =>
              cond ((((((c12).1).length : Nat) : Int) == ((((c2).1).length : Nat) : Int))) (
                optAll (law24_same.R (c14).1 (c2).1) fun (c19 : (Bool × Unit)) =>
                cond ((c19).1) (
                  optAll (law24_same.R (c18).1 (c2).1) fun (c20 : (Bool × Unit)) =>
                  cond ((c20).1) (
                    optAll (law24_live.R) fun (c21 : (Bool × Unit)) =>
                    c = ((c21).1, ())) (
                    c = (false, ()))) (
                  c = (false, ()))) (
                c = (false, ())))))))) : R a0 a1_0 a1_1 a2_0 a2_1 = some c := start_rule (n := 400) (lv := lv) (noSum_ok _) (by kernel_rfl) h
end law24_LinksBack
/-! garrison/garrisonlaw24.grown -/
namespace law24_grown
def lv : Live := [((4, 1048576), [0, 3, 4], [])]
abbrev H4 (x0 : List (List DV)) (x3 : List (List DV)) (x4 : Int) (c : (List (List DV) × Unit)) : Prop := HeadAns cfg 7 sh lv (bd cfg 7 [1, 1, 0, 1, 0, 0]) 1048576 [.inBlock 0, .code (bd cfg 7 [1, 1, 1])]
  [(AV.d (DV.lst 5 x0)), (AV.d (DV.lst 4 x3)), (AV.d (DV.v (Value.int IntKind.i64 x4)))] [] 1048576 c
theorem start (a0 : List (List DV)) (c : (List (List DV) × Unit)) (h :
    H4 a0 [] (0 : Int) c) : R a0 = some c := start_rule (n := 400) (lv := lv) (noSum_ok _) (by kernel_rfl) h
theorem H4_step (x0 : List (List DV)) (x3 : List (List DV)) (x4 : Int) (c : (List (List DV) × Unit)) (h :
    cond (decide ((x4 < (((x0).length : Nat) : Int)))) (
      needs ((0 : Int) ≤ x4) (
      optAll ((x0)[(Int.toNat x4)]?) fun (r0 : List DV) =>
      optAll ((dInt IntKind.i64 r0 0)) fun (z1 : Int) =>
      optAll ((dInt IntKind.i64 r0 1)) fun (z2 : Int) =>
      optAll ((dInt IntKind.i64 r0 2)) fun (z3 : Int) =>
      optAll ((dInt IntKind.i64 r0 3)) fun (z4 : Int) =>
      optAll ((dInt IntKind.i64 r0 4)) fun (z5 : Int) =>
      optAll (ref23_Code.R z2 z3) fun (c6 : (Int × Unit)) =>
      cond (((c6).1 == (0 : Int))) (
        H4 x0 x3 (IntKind.i64.wrap (x4 + (1 : Int))) c) (
        cond ((z1 != (0 : Int))) (
          cond ((z1 != (2 : Int))) (
            cond ((z1 != (4 : Int))) (
              optAll (ref23_Code.R z4 z5) fun (c7 : (Int × Unit)) =>
              cond (((c7).1 == (0 : Int))) (
                H4 x0 x3 (IntKind.i64.wrap (x4 + (1 : Int))) c) (
                cond ((z1 == (0 : Int))) (
                  optAll (tree_Root.R x3 z2 z3) fun (c8 : (List (List DV) × (Int × Unit))) =>
                  H4 x0 (c8).1 (IntKind.i64.wrap (x4 + (1 : Int))) c) (
                  cond ((z1 == (2 : Int))) (
                    optAll (tree_Remove.R x3 z2 z3) fun (c9 : (List (List DV) × (Int × Unit))) =>
                    H4 x0 (c9).1 (IntKind.i64.wrap (x4 + (1 : Int))) c) (
                    cond ((z1 == (3 : Int))) (
                      optAll (tree_Move.R x3 z2 z3 z4 z5) fun (c10 : (List (List DV) × (Int × Unit))) =>
                      H4 x0 (c10).1 (IntKind.i64.wrap (x4 + (1 : Int))) c) (
                      cond ((z1 == (4 : Int))) (
                        optAll (tree_Mark.R x3 z2 z3 true) fun (c11 : (List (List DV) × (Int × Unit))) =>
                        H4 x0 (c11).1 (IntKind.i64.wrap (x4 + (1 : Int))) c) (
                        optAll (tree_Insert.R x3 z2 z3 z4 z5) fun (c12 : (List (List DV) × (Int × Unit))) =>
                        H4 x0 (c12).1 (IntKind.i64.wrap (x4 + (1 : Int))) c)))))) (
              cond ((z1 == (0 : Int))) (
                optAll (tree_Root.R x3 z2 z3) fun (c13 : (List (List DV) × (Int × Unit))) =>
                H4 x0 (c13).1 (IntKind.i64.wrap (x4 + (1 : Int))) c) (
                cond ((z1 == (2 : Int))) (
                  optAll (tree_Remove.R x3 z2 z3) fun (c14 : (List (List DV) × (Int × Unit))) =>
                  H4 x0 (c14).1 (IntKind.i64.wrap (x4 + (1 : Int))) c) (
                  cond ((z1 == (3 : Int))) (
                    optAll (tree_Move.R x3 z2 z3 z4 z5) fun (c15 : (List (List DV) × (Int × Unit))) =>
                    H4 x0 (c15).1 (IntKind.i64.wrap (x4 + (1 : Int))) c) (
                    cond ((z1 == (4 : Int))) (
                      optAll (tree_Mark.R x3 z2 z3 true) fun (c16 : (List (List DV) × (Int × Unit))) =>
                      H4 x0 (c16).1 (IntKind.i64.wrap (x4 + (1 : Int))) c) (
                      optAll (tree_Insert.R x3 z2 z3 z4 z5) fun (c17 : (List (List DV) × (Int × Unit))) =>
                      H4 x0 (c17).1 (IntKind.i64.wrap (x4 + (1 : Int))) c)))))) (
            cond ((z1 == (0 : Int))) (
              optAll (tree_Root.R x3 z2 z3) fun (c18 : (List (List DV) × (Int × Unit))) =>
              H4 x0 (c18).1 (IntKind.i64.wrap (x4 + (1 : Int))) c) (
              cond ((z1 == (2 : Int))) (
                optAll (tree_Remove.R x3 z2 z3) fun (c19 : (List (List DV) × (Int × Unit))) =>
                H4 x0 (c19).1 (IntKind.i64.wrap (x4 + (1 : Int))) c) (
                cond ((z1 == (3 : Int))) (
                  optAll (tree_Move.R x3 z2 z3 z4 z5) fun (c20 : (List (List DV) × (Int × Unit))) =>
                  H4 x0 (c20).1 (IntKind.i64.wrap (x4 + (1 : Int))) c) (
                  cond ((z1 == (4 : Int))) (
                    optAll (tree_Mark.R x3 z2 z3 true) fun (c21 : (List (List DV) × (Int × Unit))) =>
                    H4 x0 (c21).1 (IntKind.i64.wrap (x4 + (1 : Int))) c) (
                    optAll (tree_Insert.R x3 z2 z3 z4 z5) fun (c22 : (List (List DV) × (Int × Unit))) =>
                    H4 x0 (c22).1 (IntKind.i64.wrap (x4 + (1 : Int))) c)))))) (
          cond ((z1 == (0 : Int))) (
            optAll (tree_Root.R x3 z2 z3) fun (c23 : (List (List DV) × (Int × Unit))) =>
            H4 x0 (c23).1 (IntKind.i64.wrap (x4 + (1 : Int))) c) (
            cond ((z1 == (2 : Int))) (
              optAll (tree_Remove.R x3 z2 z3) fun (c24 : (List (List DV) × (Int × Unit))) =>
              H4 x0 (c24).1 (IntKind.i64.wrap (x4 + (1 : Int))) c) (
              cond ((z1 == (3 : Int))) (
                optAll (tree_Move.R x3 z2 z3 z4 z5) fun (c25 : (List (List DV) × (Int × Unit))) =>
                H4 x0 (c25).1 (IntKind.i64.wrap (x4 + (1 : Int))) c) (
                cond ((z1 == (4 : Int))) (
                  optAll (tree_Mark.R x3 z2 z3 true) fun (c26 : (List (List DV) × (Int × Unit))) =>
                  H4 x0 (c26).1 (IntKind.i64.wrap (x4 + (1 : Int))) c) (
                  optAll (tree_Insert.R x3 z2 z3 z4 z5) fun (c27 : (List (List DV) × (Int × Unit))) =>
                  H4 x0 (c27).1 (IntKind.i64.wrap (x4 + (1 : Int))) c)))))))) (
      c = (x3, ()))) : H4 x0 x3 x4 c := head_rule (n := 400) (noSum_ok _) (by kernel_rfl) h
end law24_grown
/-! garrison/garrisonlaw24.alike -/
namespace law24_alike
def lv : Live := [((6, 1048576), [0, 5, 6], []), ((9, 2097152), [0, 5, 6, 7], []), ((12, 3145728), [0, 5, 6, 7, 8], [])]
abbrev H6 (x0 : List (List DV)) (x5 : List (List DV)) (x6 : Int) (c : (Bool × Unit)) : Prop := HeadAns cfg 10 sh lv (bd cfg 10 [1, 1, 1, 0, 1, 0, 0]) 1048576 [.inBlock 0, .code (bd cfg 10 [1, 1, 1, 1])]
  [(AV.d (DV.lst 1 x0)), (AV.d (DV.lst 1 x5)), (AV.d (DV.v (Value.int IntKind.i64 x6)))] [] 1048576 c
abbrev H9 (x0 : List (List DV)) (x5 : List (List DV)) (x6 : Int) (x7 : Int) (c : (Bool × Unit)) : Prop := HeadAns cfg 10 sh lv (bd cfg 10 [1, 1, 1, 0, 1, 0, 0, 1, 0, 0, 1, 0, 0]) 2097152 [.inBlock 2, .inBlock 1, .code (bd cfg 10 [1, 1, 1, 0, 1, 0, 0, 1, 1]), .inLoop (bd cfg 10 [1, 1, 1, 0, 1, 0, 0]) 1048576, .inBlock 0, .code (bd cfg 10 [1, 1, 1, 1])]
  [(AV.d (DV.lst 1 x0)), (AV.d (DV.lst 1 x5)), (AV.d (DV.v (Value.int IntKind.i64 x6))), (AV.d (DV.v (Value.int IntKind.i64 x7)))] [] 2097152 c
abbrev H12 (x0 : List (List DV)) (x5 : List (List DV)) (x6 : Int) (x7 : Int) (x8 : Int) (c : (Bool × Unit)) : Prop := HeadAns cfg 10 sh lv (bd cfg 10 [1, 1, 1, 0, 1, 0, 0, 1, 0, 0, 1, 0, 0, 1, 0, 0, 1, 0, 0]) 3145728 [.inBlock 4, .inBlock 3, .code (bd cfg 10 [1, 1, 1, 0, 1, 0, 0, 1, 0, 0, 1, 0, 0, 1, 1]), .inLoop (bd cfg 10 [1, 1, 1, 0, 1, 0, 0, 1, 0, 0, 1, 0, 0]) 2097152, .inBlock 2, .inBlock 1, .code (bd cfg 10 [1, 1, 1, 0, 1, 0, 0, 1, 1]), .inLoop (bd cfg 10 [1, 1, 1, 0, 1, 0, 0]) 1048576, .inBlock 0, .code (bd cfg 10 [1, 1, 1, 1])]
  [(AV.d (DV.lst 1 x0)), (AV.d (DV.lst 1 x5)), (AV.d (DV.v (Value.int IntKind.i64 x6))), (AV.d (DV.v (Value.int IntKind.i64 x7))), (AV.d (DV.v (Value.int IntKind.i64 x8)))] [] 3145728 c
theorem start (a0 : List (List DV)) (a1 : List (List DV)) (c : (Bool × Unit)) (h :
    optAll (law24_cells.R a1) fun (c0 : (List (List DV) × Unit)) =>
    cond (((((a0).length : Nat) : Int) != ((((c0).1).length : Nat) : Int))) (
      c = (false, ())) (
      H6 a0 (c0).1 (0 : Int) c)) : R a0 a1 = some c := start_rule (n := 400) (lv := lv) (noSum_ok _) (by kernel_rfl) h
theorem H6_step (x0 : List (List DV)) (x5 : List (List DV)) (x6 : Int) (c : (Bool × Unit)) (h :
    cond (decide ((x6 < (4 : Int)))) (
      H9 x0 x5 x6 (0 : Int) c) (
      c = (true, ()))) : H6 x0 x5 x6 c := head_rule (n := 400) (noSum_ok _) (by kernel_rfl) h
theorem H9_step (x0 : List (List DV)) (x5 : List (List DV)) (x6 : Int) (x7 : Int) (c : (Bool × Unit)) (h :
    cond (decide ((x7 < (8 : Int)))) (
      H12 x0 x5 x6 x7 (2 : Int) c) (
      H6 x0 x5 (IntKind.i64.wrap (x6 + (1 : Int))) c)) : H9 x0 x5 x6 x7 c := head_rule (n := 400) (noSum_ok _) (by kernel_rfl) h
theorem H12_step (x0 : List (List DV)) (x5 : List (List DV)) (x6 : Int) (x7 : Int) (x8 : Int) (c : (Bool × Unit)) (h :
    cond (decide ((x8 ≤ (5 : Int)))) (
      optAll (law24_key.R x6 x7) fun (c1 : ((Int × (Int × Unit)) × Unit)) =>
      optAll (ref23_Slot.R ((c1).1).1 (((c1).1).2).1 x8) fun (c2 : (Int × Unit)) =>
      needs ((0 : Int) ≤ (c2).1) (
      optAll ((x0)[(Int.toNat (c2).1)]?) fun (r3 : List DV) =>
      optAll ((dInt IntKind.i64 r3 0)) fun (z4 : Int) =>
      needs ((0 : Int) ≤ (c2).1) (
      optAll ((x5)[(Int.toNat (c2).1)]?) fun (r5 : List DV) =>
      optAll ((dInt IntKind.i64 r5 0)) fun (z6 : Int) =>
      cond ((z4 != z6)) (
        c = (false, ())) (
        H12 x0 x5 x6 x7 (IntKind.i64.wrap (x8 + (1 : Int))) c)))) (
      H9 x0 x5 x6 (IntKind.i64.wrap (x7 + (1 : Int))) c)) : H12 x0 x5 x6 x7 x8 c := head_rule (n := 400) (noSum_ok _) (by kernel_rfl) h
end law24_alike
/-! garrison/garrisonlaw24.same -/
namespace law24_same
def lv : Live := [((5, 1048576), [0, 1, 5], [])]
abbrev H5 (x0 : List (List DV)) (x1 : List (List DV)) (x5 : Int) (c : (Bool × Unit)) : Prop := HeadAns cfg 22 sh lv (bd cfg 22 [1, 1, 0, 1, 0, 0]) 1048576 [.inBlock 0, .code (bd cfg 22 [1, 1, 1])]
  [(AV.d (DV.lst 1 x0)), (AV.d (DV.lst 1 x1)), (AV.d (DV.v (Value.int IntKind.i64 x5)))] [] 1048576 c
theorem start (a0 : List (List DV)) (a1 : List (List DV)) (c : (Bool × Unit)) (h :
    cond (((((a0).length : Nat) : Int) != (((a1).length : Nat) : Int))) (
      c = (false, ())) (
      H5 a0 a1 (0 : Int) c)) : R a0 a1 = some c := start_rule (n := 400) (lv := lv) (noSum_ok _) (by kernel_rfl) h
theorem H5_step (x0 : List (List DV)) (x1 : List (List DV)) (x5 : Int) (c : (Bool × Unit)) (h :
    cond (decide ((x5 < (((x0).length : Nat) : Int)))) (
      needs ((0 : Int) ≤ x5) (
      optAll ((x0)[(Int.toNat x5)]?) fun (r0 : List DV) =>
      optAll ((dInt IntKind.i64 r0 0)) fun (z1 : Int) =>
      needs ((0 : Int) ≤ x5) (
      optAll ((x1)[(Int.toNat x5)]?) fun (r2 : List DV) =>
      optAll ((dInt IntKind.i64 r2 0)) fun (z3 : Int) =>
      cond ((z1 != z3)) (
        c = (false, ())) (
        H5 x0 x1 (IntKind.i64.wrap (x5 + (1 : Int))) c)))) (
      c = (true, ()))) : H5 x0 x1 x5 c := head_rule (n := 400) (noSum_ok _) (by kernel_rfl) h
end law24_same
end Go.AI
