/-
  Own work: printed by Tell, a program of this work: what each function's body does over symbols.
-/
import Derived.Test.YtjmpflgdmnoinaaToldD
import Derived.KernelRfl
namespace Go.AI
open Go
set_option maxRecDepth 100000
set_option linter.unusedVariables false
set_option linter.unusedSimpArgs false
/-! slices.ContainsFunc[[]garrison/api.Key,garrison/api.Key] -/
namespace slices_ContainsFunc_api_Key_api_Key__links_are_1
def lv : Live := []
theorem start (a0 : List (List DV)) (c : (Bool × Unit)) (h :
    optAll (slices_IndexFunc_api_Key_api_Key__links_are_1.R a0) fun (c0 : (Int × Unit)) =>
    c = (decide (((c0).1 ≥ (0 : Int))), ())) : R a0 = some c := start_rule (n := 400) (lv := lv) (noSum_ok _) (by kernel_rfl) h
end slices_ContainsFunc_api_Key_api_Key__links_are_1
/-! slices.IndexFunc[[]garrison/api.Key,garrison/api.Key] -/
namespace slices_IndexFunc_api_Key_api_Key__links_are_1
def lv : Live := [((3, 1048576), [0, 1, 7, 8], [])]
abbrev H3 (x0 : List (List DV)) (x7 : Int) (x8 : Int) (c : (Int × Unit)) : Prop := HeadAns cfg 79 sh lv (bd cfg 79 [1, 0, 1, 0, 0]) 1048576 [.inBlock 0, .code (bd cfg 79 [1, 1])]
  [(AV.d (DV.lst 2 x0)), (AV.d (DV.fn 66 [])), (AV.d (DV.v (Value.int IntKind.i64 x7))), (AV.d (DV.v (Value.int IntKind.i64 x8)))] [] 1048576 c
theorem start (a0 : List (List DV)) (c : (Int × Unit)) (h :
    H3 a0 (((a0).length : Nat) : Int) (0 : Int) c) : R a0 = some c := start_rule (n := 400) (lv := lv) (noSum_ok _) (by kernel_rfl) h
theorem H3_step (x0 : List (List DV)) (x7 : Int) (x8 : Int) (c : (Int × Unit)) (h :
    cond (decide ((x8 < x7))) (
      needs ((0 : Int) ≤ x8) (
      optAll ((x0)[(Int.toNat x8)]?) fun (r0 : List DV) =>
      optAll ((dInt IntKind.i64 r0 0)) fun (z1 : Int) =>
      optAll ((dInt IntKind.i64 r0 1)) fun (z2 : Int) =>
      optAll (links_are_1.R z1 z2) fun (c3 : (Bool × Unit)) =>
      cond ((c3).1) (
        c = (x8, ())) (
        H3 x0 x7 (IntKind.i64.wrap (x8 + (1 : Int))) c))) (
      c = ((-1 : Int), ()))) : H3 x0 x7 x8 c := head_rule (n := 400) (noSum_ok _) (by kernel_rfl) h
end slices_IndexFunc_api_Key_api_Key__links_are_1
/-! garrison/tree.Insert -/
namespace tree_Insert
def lv : Live := []
theorem start (a0 : List (List DV)) (a1_0 : Int) (a1_1 : Int) (a2_0 : Int) (a2_1 : Int) (c : (List (List DV) × (Int × Unit))) (h :
    optAll (tree_right.R a0 (([[(DV.v (Value.int IntKind.i64 a1_0)), (DV.v (Value.int IntKind.i64 a1_1))], [(DV.v (Value.int IntKind.i64 a2_0)), (DV.v (Value.int IntKind.i64 a2_1))]]).take (2))) fun (c0 : (Bool × Unit)) =>
    cond ((!(c0).1)) (
      c = (a0, ((2 : Int), ()))) (
      optAll (tree_Find.R a0 a1_0 a1_1) fun (c1 : (Int × (Bool × Unit))) =>
      cond ((!((c1).2).1)) (
        c = (a0, ((7 : Int), ()))) (
        needs ((0 : Int) ≤ (c1).1) (
        optAll ((a0)[(Int.toNat (c1).1)]?) fun (r2 : List DV) =>
        optAll ((dInt IntKind.i64 r2 2)) fun (z3 : Int) =>
        optAll (tree_add.R a0 (IntKind.i64.wrap ((c1).1 + (1 : Int))) a2_0 a2_1 (IntKind.i64.wrap (z3 + (1 : Int))) false) fun (c4 : (List (List DV) × (Int × Unit))) =>
        c = ((c4).1, (((c4).2).1, ())))))) : R a0 a1_0 a1_1 a2_0 a2_1 = some c := start_rule (n := 400) (lv := lv) (noSum_ok _) (by kernel_rfl) h
end tree_Insert
/-! garrison/tree.Remove -/
namespace tree_Remove
def lv : Live := []
theorem start (a0 : List (List DV)) (a1_0 : Int) (a1_1 : Int) (c : (List (List DV) × (Int × Unit))) (h :
    optAll (tree_right.R a0 (([[(DV.v (Value.int IntKind.i64 a1_0)), (DV.v (Value.int IntKind.i64 a1_1))]]).take (1))) fun (c0 : (Bool × Unit)) =>
    cond ((!(c0).1)) (
      c = (a0, ((2 : Int), ()))) (
      optAll (tree_Find.R a0 a1_0 a1_1) fun (c1 : (Int × (Bool × Unit))) =>
      cond ((!((c1).2).1)) (
        c = (a0, ((7 : Int), ()))) (
        optAll (gather cfg 70 [(DV.ptr [(DV.lst 4 a0)] 0), (DV.ptr [(DV.v (Value.int IntKind.i64 (c1).1))] 0)]) fun (g2 : List (List DV)) =>
        cond ((List.isEmpty g2)) (
          needs ((c1).1 = (c1).1) (
          needs (((0 : Int) ≤ (0 : Int)) ∧ (((0 : Int) ≤ (c1).1) ∧ ((c1).1 ≤ (((a0).length : Nat) : Int)))) (
          needs (((0 : Int) ≤ (IntKind.i64.wrap ((c1).1 + (1 : Int)))) ∧ (((IntKind.i64.wrap ((c1).1 + (1 : Int))) ≤ (((a0).length : Nat) : Int)) ∧ ((((a0).length : Nat) : Int) ≤ (((a0).length : Nat) : Int)))) (
          cond ((List.isEmpty ((((a0).take ((Int.toNat (((a0).length : Nat) : Int))))).drop ((Int.toNat (IntKind.i64.wrap ((c1).1 + (1 : Int)))))))) (
            c = (((a0).take ((Int.toNat (c1).1))), ((0 : Int), ()))) (
            needs (((((((a0).take ((Int.toNat (c1).1))) ++ ((((a0).take ((Int.toNat (((a0).length : Nat) : Int))))).drop ((Int.toNat (IntKind.i64.wrap ((c1).1 + (1 : Int)))))))).length * 32) ≤ 140737488355328) ∧ ((((((a0).take ((Int.toNat (c1).1))) ++ ((((a0).take ((Int.toNat (((a0).length : Nat) : Int))))).drop ((Int.toNat (IntKind.i64.wrap ((c1).1 + (1 : Int)))))))).length * 4) ≤ 140737488355328)) (
            c = ((((((a0).take ((Int.toNat (c1).1))) ++ ((((a0).take ((Int.toNat (((a0).length : Nat) : Int))))).drop ((Int.toNat (IntKind.i64.wrap ((c1).1 + (1 : Int)))))))).take (((((a0).take ((Int.toNat (c1).1))) ++ ((((a0).take ((Int.toNat (((a0).length : Nat) : Int))))).drop ((Int.toNat (IntKind.i64.wrap ((c1).1 + (1 : Int)))))))).length)), ((0 : Int), ())))))))) (
          c = (a0, ((130 : Int), ())))))) : R a0 a1_0 a1_1 = some c := start_rule (n := 400) (lv := lv) (noSum_ok _) (by kernel_rfl) h
end tree_Remove
/-! garrison/tree.Move -/
namespace tree_Move
def lv : Live := []
theorem start (a0 : List (List DV)) (a1_0 : Int) (a1_1 : Int) (a2_0 : Int) (a2_1 : Int) (c : (List (List DV) × (Int × Unit))) (h :
    optAll (tree_right.R a0 (([[(DV.v (Value.int IntKind.i64 a1_0)), (DV.v (Value.int IntKind.i64 a1_1))], [(DV.v (Value.int IntKind.i64 a2_0)), (DV.v (Value.int IntKind.i64 a2_1))]]).take (2))) fun (c0 : (Bool × Unit)) =>
    cond ((!(c0).1)) (
      c = (a0, ((2 : Int), ()))) (
      optAll (tree_Find.R a0 a1_0 a1_1) fun (c1 : (Int × (Bool × Unit))) =>
      cond ((!((c1).2).1)) (
        c = (a0, ((7 : Int), ()))) (
        optAll (tree_Find.R a0 a2_0 a2_1) fun (c2 : (Int × (Bool × Unit))) =>
        cond (((c2).2).1) (
          c = (a0, ((8 : Int), ()))) (
          needs ((0 : Int) ≤ (c1).1) (
          optAll ((a0)[(Int.toNat (c1).1)]?) fun (r3 : List DV) =>
          optAll ((dInt IntKind.i64 r3 0)) fun (z4 : Int) =>
          optAll ((dInt IntKind.i64 r3 1)) fun (z5 : Int) =>
          optAll ((dInt IntKind.i64 r3 2)) fun (z6 : Int) =>
          optAll ((dBool r3 3)) fun (z7 : Bool) =>
          optAll (tree_with.R a0 (c1).1 a2_0 a2_1 z6 z7) fun (c8 : (List (List DV) × Unit)) =>
          c = ((c8).1, ((0 : Int), ()))))))) : R a0 a1_0 a1_1 a2_0 a2_1 = some c := start_rule (n := 400) (lv := lv) (noSum_ok _) (by kernel_rfl) h
end tree_Move
/-! garrison/garrisonref13.Below -/
namespace ref13_Below
def lv : Live := [((6, 1048576), [0, 5, 7, 8], [7])]
abbrev H6 (x0 : List (List DV)) (x5 : Int) (b7 : List (List DV)) (x8 : Int) (c : (List (List DV) × Unit)) : Prop := HeadAns cfg 20 sh lv (bd cfg 20 [1, 1, 1, 0, 1, 0, 1, 0, 0]) 1048576 [.inBlock 0, .code (bd cfg 20 [1, 1, 1, 1])]
  [(AV.d (DV.lst 4 x0)), (AV.d (DV.v (Value.int IntKind.i64 x5))), (AV.ref 7 0 0 (List.length b7)), (AV.d (DV.v (Value.int IntKind.i64 x8)))] [(Option.some (VBlk.drow 2 0 b7))] 1048576 c
theorem start (a0 : List (List DV)) (a1_0 : Int) (a1_1 : Int) (c : (List (List DV) × Unit)) (h :
    optAll (ref13_Find.R a0 a1_0 a1_1) fun (c0 : (Int × (Bool × Unit))) =>
    cond (((c0).2).1) (
      H6 a0 (c0).1 [] (0 : Int) c) (
      c = ((([]).take (0)), ()))) : R a0 a1_0 a1_1 = some c := start_rule (n := 400) (lv := lv) (noSum_ok _) (by kernel_rfl) h
theorem H6_step (x0 : List (List DV)) (x5 : Int) (b7 : List (List DV)) (x8 : Int) (c : (List (List DV) × Unit)) (h :
    optAll (ref13_count.R x0 x5) fun (c1 : (Int × Unit)) =>
    cond (decide ((x8 < (c1).1))) (
      needs ((0 : Int) ≤ (IntKind.i64.wrap ((IntKind.i64.wrap (x5 + (1 : Int))) + x8))) (
      optAll ((x0)[(Int.toNat (IntKind.i64.wrap ((IntKind.i64.wrap (x5 + (1 : Int))) + x8)))]?) fun (r2 : List DV) =>
      optAll ((dInt IntKind.i64 r2 0)) fun (z3 : Int) =>
      optAll ((dInt IntKind.i64 r2 1)) fun (z4 : Int) =>
      needs ((b7).length = (b7).length) (
      needs (((((b7 ++ (([[(DV.v (Value.int IntKind.i64 z3)), (DV.v (Value.int IntKind.i64 z4))]]).take (1)))).length * 16) ≤ 140737488355328) ∧ ((((b7 ++ (([[(DV.v (Value.int IntKind.i64 z3)), (DV.v (Value.int IntKind.i64 z4))]]).take (1)))).length * 2) ≤ 140737488355328)) (
      H6 x0 x5 (b7 ++ (([[(DV.v (Value.int IntKind.i64 z3)), (DV.v (Value.int IntKind.i64 z4))]]).take (1))) (IntKind.i64.wrap (x8 + (1 : Int))) c)))) (
      c = (((b7).take ((b7).length)), ()))) : H6 x0 x5 b7 x8 c := head_rule (n := 400) (noSum_ok _) (by kernel_rfl) h
end ref13_Below
/-! garrison/tree.Find -/
namespace tree_Find
def lv : Live := []
theorem start (a0 : List (List DV)) (a1_0 : Int) (a1_1 : Int) (c : (Int × (Bool × Unit))) (h :
    optAll (slices_IndexFunc_api_Branch_api_Branch__tree_Find_1.R a0 a1_0 a1_1) fun (c0 : (Int × Unit)) =>
    c = ((if ((0 : Int) > (c0).1) then (0 : Int) else (c0).1), (decide (((c0).1 ≥ (0 : Int))), ()))) : R a0 a1_0 a1_1 = some c := start_rule (n := 400) (lv := lv) (noSum_ok _) (by kernel_rfl) h
end tree_Find
/-! garrison/tree.Root -/
namespace tree_Root
def lv : Live := []
theorem start (a0 : List (List DV)) (a1_0 : Int) (a1_1 : Int) (c : (List (List DV) × (Int × Unit))) (h :
    optAll (tree_right.R a0 (([[(DV.v (Value.int IntKind.i64 a1_0)), (DV.v (Value.int IntKind.i64 a1_1))]]).take (1))) fun (c0 : (Bool × Unit)) =>
    cond ((!(c0).1)) (
      c = (a0, ((2 : Int), ()))) (
      optAll (tree_add.R a0 (((a0).length : Nat) : Int) a1_0 a1_1 (0 : Int) false) fun (c1 : (List (List DV) × (Int × Unit))) =>
      c = ((c1).1, (((c1).2).1, ())))) : R a0 a1_0 a1_1 = some c := start_rule (n := 400) (lv := lv) (noSum_ok _) (by kernel_rfl) h
end tree_Root
/-! garrison/tree.Mark -/
namespace tree_Mark
def lv : Live := []
theorem start (a0 : List (List DV)) (a1_0 : Int) (a1_1 : Int) (a2 : Bool) (c : (List (List DV) × (Int × Unit))) (h :
    optAll (tree_right.R a0 (([[(DV.v (Value.int IntKind.i64 a1_0)), (DV.v (Value.int IntKind.i64 a1_1))]]).take (1))) fun (c0 : (Bool × Unit)) =>
    cond ((!(c0).1)) (
      c = (a0, ((2 : Int), ()))) (
      optAll (tree_Find.R a0 a1_0 a1_1) fun (c1 : (Int × (Bool × Unit))) =>
      cond ((!((c1).2).1)) (
        c = (a0, ((7 : Int), ()))) (
        needs ((0 : Int) ≤ (c1).1) (
        optAll ((a0)[(Int.toNat (c1).1)]?) fun (r2 : List DV) =>
        optAll ((dInt IntKind.i64 r2 0)) fun (z3 : Int) =>
        optAll ((dInt IntKind.i64 r2 1)) fun (z4 : Int) =>
        optAll ((dInt IntKind.i64 r2 2)) fun (z5 : Int) =>
        optAll ((dBool r2 3)) fun (z6 : Bool) =>
        optAll (tree_with.R a0 (c1).1 z3 z4 z5 a2) fun (c7 : (List (List DV) × Unit)) =>
        c = ((c7).1, ((0 : Int), ())))))) : R a0 a1_0 a1_1 a2 = some c := start_rule (n := 400) (lv := lv) (noSum_ok _) (by kernel_rfl) h
end tree_Mark
/-! garrison/tree.right -/
namespace tree_right
def lv : Live := []
theorem start (a0 : List (List DV)) (a1 : List (List DV)) (c : (Bool × Unit)) (h :
    optAll (tree_Check.R a0) fun (c0 : (Int × Unit)) =>
    cond (((c0).1 == (0 : Int))) (
      optAll (slices_ContainsFunc_api_Key_api_Key__tree_right_1.R a1) fun (c1 : (Bool × Unit)) =>
      c = ((!(c1).1), ())) (
      c = (false, ()))) : R a0 a1 = some c := start_rule (n := 400) (lv := lv) (noSum_ok _) (by kernel_rfl) h
end tree_right
/-! garrison/tree.add -/
namespace tree_add
def lv : Live := []
theorem start (a0 : List (List DV)) (a1 : Int) (a2_0 : Int) (a2_1 : Int) (a2_2 : Int) (a2_3 : Bool) (c : (List (List DV) × (Int × Unit))) (h :
    optAll (tree_Find.R a0 a2_0 a2_1) fun (c0 : (Int × (Bool × Unit))) =>
    cond (((c0).2).1) (
      c = (a0, ((8 : Int), ()))) (
      cond (decide (((((a0).length : Nat) : Int) ≥ (512 : Int)))) (
        c = (a0, ((6 : Int), ()))) (
        optAll (tree_put.R a0 a1 a2_0 a2_1 a2_2 a2_3) fun (c1 : (List (List DV) × Unit)) =>
        c = ((c1).1, ((0 : Int), ()))))) : R a0 a1 a2_0 a2_1 a2_2 a2_3 = some c := start_rule (n := 400) (lv := lv) (noSum_ok _) (by kernel_rfl) h
end tree_add
/-! garrison/tree.with -/
namespace tree_with
def lv : Live := []
theorem start (a0 : List (List DV)) (a1 : Int) (a2_0 : Int) (a2_1 : Int) (a2_2 : Int) (a2_3 : Bool) (c : (List (List DV) × Unit)) (h :
    needs ((((a0).length * 32) ≤ 140737488355328) ∧ (((a0).length * 4) ≤ 140737488355328)) (
    needs (((0 : Int) ≤ a1) ∧ (a1 < (((a0).length : Nat) : Int))) (
    optAll ((a0)[(0 + (Int.toNat a1))]?) fun (r0 : List DV) =>
    needs (4 ≤ (r0).length) (
    c = (((((a0).set ((0 + (Int.toNat a1))) (putD r0 0 [(DV.v (Value.int IntKind.i64 a2_0)), (DV.v (Value.int IntKind.i64 a2_1)), (DV.v (Value.int IntKind.i64 a2_2)), (DV.v (Value.bool a2_3))]))).take ((a0).length)), ()))))) : R a0 a1 a2_0 a2_1 a2_2 a2_3 = some c := start_rule (n := 400) (lv := lv) (noSum_ok _) (by kernel_rfl) h
end tree_with
/-! garrison/garrisonref13.Find -/
namespace ref13_Find
def lv : Live := [((3, 1048576), [0, 3, 6], [21])]
abbrev H3 (x0 : List (List DV)) (x6 : Int) (b21 : Int) (b21_1 : Int) (c : (Int × (Bool × Unit))) : Prop := HeadAns cfg 42 sh lv (bd cfg 42 [1, 0, 1, 0, 0]) 1048576 [.inBlock 0, .code (bd cfg 42 [1, 1])]
  [(AV.d (DV.lst 4 x0)), (AV.ptr 21 0 0 0), (AV.d (DV.v (Value.int IntKind.i64 x6)))] [(Option.some (VBlk.cell 2 0 [(AV.d (DV.v (Value.int IntKind.i64 b21))), (AV.d (DV.v (Value.int IntKind.i64 b21_1)))]))] 1048576 c
theorem start (a0 : List (List DV)) (a1_0 : Int) (a1_1 : Int) (c : (Int × (Bool × Unit))) (h :
    H3 a0 (0 : Int) a1_0 a1_1 c) : R a0 a1_0 a1_1 = some c := start_rule (n := 400) (lv := lv) (noSum_ok _) (by kernel_rfl) h
theorem H3_step (x0 : List (List DV)) (x6 : Int) (b21 : Int) (b21_1 : Int) (c : (Int × (Bool × Unit))) (h :
    cond (decide ((x6 < (((x0).length : Nat) : Int)))) (
      needs ((0 : Int) ≤ x6) (
      optAll ((x0)[(Int.toNat x6)]?) fun (r0 : List DV) =>
      optAll ((dInt IntKind.i64 r0 0)) fun (z1 : Int) =>
      optAll ((dInt IntKind.i64 r0 1)) fun (z2 : Int) =>
      cond (((z1 == b21) && ((z2 == b21_1) && true))) (
        c = (x6, (true, ()))) (
        H3 x0 (IntKind.i64.wrap (x6 + (1 : Int))) b21 b21_1 c))) (
      c = ((0 : Int), (false, ())))) : H3 x0 x6 b21 b21_1 c := head_rule (n := 400) (noSum_ok _) (by kernel_rfl) h
end ref13_Find
/-! garrison/garrisonref13.count -/
namespace ref13_count
def lv : Live := [((3, 1048576), [0, 1, 5], [])]
abbrev H3 (x0 : List (List DV)) (x1 : Int) (x5 : Int) (c : (Int × Unit)) : Prop := HeadAns cfg 43 sh lv (bd cfg 43 [1, 1, 0, 0, 0]) 1048576 [.inBlock 0, .code (bd cfg 43 [1, 1, 1])]
  [(AV.d (DV.lst 4 x0)), (AV.d (DV.v (Value.int IntKind.i64 x1))), (AV.d (DV.v (Value.int IntKind.i64 x5)))] [] 1048576 c
theorem start (a0 : List (List DV)) (a1 : Int) (c : (Int × Unit)) (h :
    H3 a0 a1 (0 : Int) c) : R a0 a1 = some c := start_rule (n := 400) (lv := lv) (noSum_ok _) (by kernel_rfl) h
theorem H3_step (x0 : List (List DV)) (x1 : Int) (x5 : Int) (c : (Int × Unit)) (h :
    cond (decide (((IntKind.i64.wrap ((IntKind.i64.wrap (x1 + (1 : Int))) + x5)) < (((x0).length : Nat) : Int)))) (
      needs ((0 : Int) ≤ (IntKind.i64.wrap ((IntKind.i64.wrap (x1 + (1 : Int))) + x5))) (
      optAll ((x0)[(Int.toNat (IntKind.i64.wrap ((IntKind.i64.wrap (x1 + (1 : Int))) + x5)))]?) fun (r0 : List DV) =>
      optAll ((dInt IntKind.i64 r0 2)) fun (z1 : Int) =>
      needs ((0 : Int) ≤ x1) (
      optAll ((x0)[(Int.toNat x1)]?) fun (r2 : List DV) =>
      optAll ((dInt IntKind.i64 r2 2)) fun (z3 : Int) =>
      cond (decide ((z1 > z3))) (
        H3 x0 x1 (IntKind.i64.wrap (x5 + (1 : Int))) c) (
        c = (x5, ()))))) (
      c = (x5, ()))) : H3 x0 x1 x5 c := head_rule (n := 400) (noSum_ok _) (by kernel_rfl) h
end ref13_count
/-! slices.IndexFunc[[]garrison/api.Branch,garrison/api.Branch] -/
namespace slices_IndexFunc_api_Branch_api_Branch__tree_Find_1
def lv : Live := [((3, 1048576), [0, 1, 7, 8], [0])]
abbrev H3 (x0 : List (List DV)) (x7 : Int) (x8 : Int) (b0 : Int) (b0_1 : Int) (c : (Int × Unit)) : Prop := HeadAnsL wide cfg 44 sh lv (bd cfg 44 [1, 0, 1, 0, 0]) 1048576 [.inBlock 0, .code (bd cfg 44 [1, 1])]
  [(AV.d (DV.lst 4 x0)), (AV.fn 45 [(AV.ptr 0 0 0 0)]), (AV.d (DV.v (Value.int IntKind.i64 x7))), (AV.d (DV.v (Value.int IntKind.i64 x8)))] [(Option.some (VBlk.cell 2 0 [(AV.d (DV.v (Value.int IntKind.i64 b0))), (AV.d (DV.v (Value.int IntKind.i64 b0_1)))]))] 1048576 c
theorem start (a0 : List (List DV)) (b0 : Int) (b0_1 : Int) (c : (Int × Unit)) (h :
    H3 a0 (((a0).length : Nat) : Int) (0 : Int) b0 b0_1 c) : R a0 b0 b0_1 = some c := own_rule (n := 400) (lv := lv) (noSum_ok _) (by kernel_rfl) h
theorem H3_step (x0 : List (List DV)) (x7 : Int) (x8 : Int) (b0 : Int) (b0_1 : Int) (c : (Int × Unit)) (h :
    cond (decide ((x8 < x7))) (
      needs ((0 : Int) ≤ x8) (
      optAll ((x0)[(Int.toNat x8)]?) fun (r0 : List DV) =>
      optAll ((dInt IntKind.i64 r0 0)) fun (z1 : Int) =>
      optAll ((dInt IntKind.i64 r0 1)) fun (z2 : Int) =>
      optAll ((dInt IntKind.i64 r0 2)) fun (z3 : Int) =>
      optAll ((dBool r0 3)) fun (z4 : Bool) =>
      cond (((z1 == b0) && ((z2 == b0_1) && true))) (
        c = (x8, ())) (
        H3 x0 x7 (IntKind.i64.wrap (x8 + (1 : Int))) b0 b0_1 c))) (
      c = ((-1 : Int), ()))) : H3 x0 x7 x8 b0 b0_1 c := head_ruleL (n := 400) (noSum_ok _) (by kernel_rfl) h
end slices_IndexFunc_api_Branch_api_Branch__tree_Find_1
/-! garrison/tree.Check -/
namespace tree_Check
def lv : Live := [((7, 1048576), [3, 4, 13, 14, 15], [143])]
abbrev H7 (x4 : Int) (x13 : List (List DV)) (x14 : Int) (x15 : Int) (b143 : List (List DV × DV)) (c : (Int × Unit)) : Prop := HeadAns cfg 63 sh lv (bd cfg 63 [1, 1, 1, 1, 0, 1, 0, 0]) 1048576 [.inBlock 0, .code (bd cfg 63 [1, 1, 1, 1, 1])]
  [(AV.map 143), (AV.d (DV.v (Value.int IntKind.i64 x4))), (AV.d (DV.lst 4 x13)), (AV.d (DV.v (Value.int IntKind.i64 x14))), (AV.d (DV.v (Value.int IntKind.i64 x15)))] [(Option.some (VBlk.mp true b143))] 1048576 c
theorem start (a0 : List (List DV)) (c : (Int × Unit)) (h :
    cond (decide (((((a0).length : Nat) : Int) > (512 : Int)))) (
      c = ((2 : Int), ())) (
      H7 (0 : Int) a0 (((a0).length : Nat) : Int) (0 : Int) [] c)) : R a0 = some c := start_rule (n := 400) (lv := lv) (noSum_ok _) (by kernel_rfl) h
theorem H7_step (x4 : Int) (x13 : List (List DV)) (x14 : Int) (x15 : Int) (b143 : List (List DV × DV)) (c : (Int × Unit)) (h :
    cond (decide ((x15 < x14))) (
      needs ((0 : Int) ≤ x15) (
      optAll ((x13)[(Int.toNat x15)]?) fun (r0 : List DV) =>
      optAll ((dInt IntKind.i64 r0 0)) fun (z1 : Int) =>
      optAll ((dInt IntKind.i64 r0 1)) fun (z2 : Int) =>
      optAll ((dInt IntKind.i64 r0 2)) fun (z3 : Int) =>
      optAll ((dBool r0 3)) fun (z4 : Bool) =>
      optAll ((mapHas (Option.some [false, false]) [(DV.v (Value.int IntKind.i64 z1)), (DV.v (Value.int IntKind.i64 z2))] b143)) fun (z5 : Bool) =>
      cond (z5) (
        c = ((2 : Int), ())) (
        optAll (order_Check.R z1 z2) fun (c6 : (Int × Unit)) =>
        cond (((c6).1 != (0 : Int))) (
          c = ((2 : Int), ())) (
          cond (decide ((z3 < (0 : Int)))) (
            c = ((2 : Int), ())) (
            cond (decide ((z3 > x4))) (
              c = ((2 : Int), ())) (
              optAll ((mapPut (Option.some [false, false]) [(DV.v (Value.int IntKind.i64 z1)), (DV.v (Value.int IntKind.i64 z2))] (DV.v (Value.bool true)) b143)) fun (m7 : List (List DV × DV)) =>
              H7 (IntKind.i64.wrap (z3 + (1 : Int))) x13 x14 (IntKind.i64.wrap (x15 + (1 : Int))) m7 c)))))) (
      c = ((0 : Int), ()))) : H7 x4 x13 x14 x15 b143 c := head_rule (n := 400) (noSum_ok _) (by kernel_rfl) h
end tree_Check
/-! slices.ContainsFunc[[]garrison/api.Key,garrison/api.Key] -/
namespace slices_ContainsFunc_api_Key_api_Key__tree_right_1
def lv : Live := []
theorem start (a0 : List (List DV)) (c : (Bool × Unit)) (h :
    optAll (slices_IndexFunc_api_Key_api_Key__tree_right_1.R a0) fun (c0 : (Int × Unit)) =>
    c = (decide (((c0).1 ≥ (0 : Int))), ())) : R a0 = some c := start_rule (n := 400) (lv := lv) (noSum_ok _) (by kernel_rfl) h
end slices_ContainsFunc_api_Key_api_Key__tree_right_1
/-! garrison/tree.put -/
namespace tree_put
def lv : Live := []
theorem start (a0 : List (List DV)) (a1 : Int) (a2_0 : Int) (a2_1 : Int) (a2_2 : Int) (a2_3 : Bool) (c : (List (List DV) × Unit)) (h :
    needs (a1 = a1) (
    needs (((0 : Int) ≤ (0 : Int)) ∧ (((0 : Int) ≤ a1) ∧ (a1 ≤ (((a0).length : Nat) : Int)))) (
    needs (((((((a0).take ((Int.toNat a1))) ++ (([[(DV.v (Value.int IntKind.i64 a2_0)), (DV.v (Value.int IntKind.i64 a2_1)), (DV.v (Value.int IntKind.i64 a2_2)), (DV.v (Value.bool a2_3))]]).take (1)))).length * 32) ≤ 140737488355328) ∧ ((((((a0).take ((Int.toNat a1))) ++ (([[(DV.v (Value.int IntKind.i64 a2_0)), (DV.v (Value.int IntKind.i64 a2_1)), (DV.v (Value.int IntKind.i64 a2_2)), (DV.v (Value.bool a2_3))]]).take (1)))).length * 4) ≤ 140737488355328)) (
    needs (((0 : Int) ≤ a1) ∧ ((a1 ≤ (((a0).length : Nat) : Int)) ∧ ((((a0).length : Nat) : Int) ≤ (((a0).length : Nat) : Int)))) (
    needs (((((a0).take ((Int.toNat a1))) ++ (([[(DV.v (Value.int IntKind.i64 a2_0)), (DV.v (Value.int IntKind.i64 a2_1)), (DV.v (Value.int IntKind.i64 a2_2)), (DV.v (Value.bool a2_3))]]).take (1)))).length = ((((a0).take ((Int.toNat a1))) ++ (([[(DV.v (Value.int IntKind.i64 a2_0)), (DV.v (Value.int IntKind.i64 a2_1)), (DV.v (Value.int IntKind.i64 a2_2)), (DV.v (Value.bool a2_3))]]).take (1)))).length) (
    needs ((((((((a0).take ((Int.toNat a1))) ++ (([[(DV.v (Value.int IntKind.i64 a2_0)), (DV.v (Value.int IntKind.i64 a2_1)), (DV.v (Value.int IntKind.i64 a2_2)), (DV.v (Value.bool a2_3))]]).take (1))) ++ ((((a0).take ((Int.toNat (((a0).length : Nat) : Int))))).drop ((Int.toNat a1))))).length * 32) ≤ 140737488355328) ∧ (((((((a0).take ((Int.toNat a1))) ++ (([[(DV.v (Value.int IntKind.i64 a2_0)), (DV.v (Value.int IntKind.i64 a2_1)), (DV.v (Value.int IntKind.i64 a2_2)), (DV.v (Value.bool a2_3))]]).take (1))) ++ ((((a0).take ((Int.toNat (((a0).length : Nat) : Int))))).drop ((Int.toNat a1))))).length * 4) ≤ 140737488355328)) (
    c = (((((((a0).take ((Int.toNat a1))) ++ (([[(DV.v (Value.int IntKind.i64 a2_0)), (DV.v (Value.int IntKind.i64 a2_1)), (DV.v (Value.int IntKind.i64 a2_2)), (DV.v (Value.bool a2_3))]]).take (1))) ++ ((((a0).take ((Int.toNat (((a0).length : Nat) : Int))))).drop ((Int.toNat a1))))).take ((((((a0).take ((Int.toNat a1))) ++ (([[(DV.v (Value.int IntKind.i64 a2_0)), (DV.v (Value.int IntKind.i64 a2_1)), (DV.v (Value.int IntKind.i64 a2_2)), (DV.v (Value.bool a2_3))]]).take (1))) ++ ((((a0).take ((Int.toNat (((a0).length : Nat) : Int))))).drop ((Int.toNat a1))))).length)), ())))))))) : R a0 a1 a2_0 a2_1 a2_2 a2_3 = some c := start_rule (n := 400) (lv := lv) (noSum_ok _) (by kernel_rfl) h
end tree_put
/-! garrison/order.Check -/
namespace order_Check
def lv : Live := []
theorem start (a0_0 : Int) (a0_1 : Int) (c : (Int × Unit)) (h :
    cond (decide ((a0_0 < (0 : Int)))) (
      c = ((2 : Int), ())) (
      cond (decide ((a0_0 > (1023 : Int)))) (
        c = ((2 : Int), ())) (
        cond (decide ((a0_1 < (-1 : Int)))) (
          c = ((2 : Int), ())) (
          cond (decide ((a0_1 ≥ (8 : Int)))) (
            c = ((2 : Int), ())) (
            c = ((0 : Int), ())))))) : R a0_0 a0_1 = some c := start_rule (n := 400) (lv := lv) (noSum_ok _) (by kernel_rfl) h
end order_Check
/-! slices.IndexFunc[[]garrison/api.Key,garrison/api.Key] -/
namespace slices_IndexFunc_api_Key_api_Key__tree_right_1
def lv : Live := [((3, 1048576), [0, 1, 7, 8], [])]
abbrev H3 (x0 : List (List DV)) (x7 : Int) (x8 : Int) (c : (Int × Unit)) : Prop := HeadAns cfg 79 sh lv (bd cfg 79 [1, 0, 1, 0, 0]) 1048576 [.inBlock 0, .code (bd cfg 79 [1, 1])]
  [(AV.d (DV.lst 2 x0)), (AV.d (DV.fn 61 [])), (AV.d (DV.v (Value.int IntKind.i64 x7))), (AV.d (DV.v (Value.int IntKind.i64 x8)))] [] 1048576 c
theorem start (a0 : List (List DV)) (c : (Int × Unit)) (h :
    H3 a0 (((a0).length : Nat) : Int) (0 : Int) c) : R a0 = some c := start_rule (n := 400) (lv := lv) (noSum_ok _) (by kernel_rfl) h
theorem H3_step (x0 : List (List DV)) (x7 : Int) (x8 : Int) (c : (Int × Unit)) (h :
    cond (decide ((x8 < x7))) (
      needs ((0 : Int) ≤ x8) (
      optAll ((x0)[(Int.toNat x8)]?) fun (r0 : List DV) =>
      optAll ((dInt IntKind.i64 r0 0)) fun (z1 : Int) =>
      optAll ((dInt IntKind.i64 r0 1)) fun (z2 : Int) =>
      optAll (tree_right_1.R z1 z2) fun (c3 : (Bool × Unit)) =>
      cond ((c3).1) (
        c = (x8, ())) (
        H3 x0 x7 (IntKind.i64.wrap (x8 + (1 : Int))) c))) (
      c = ((-1 : Int), ()))) : H3 x0 x7 x8 c := head_rule (n := 400) (noSum_ok _) (by kernel_rfl) h
end slices_IndexFunc_api_Key_api_Key__tree_right_1
/-! garrison/tree.right$1 -/
namespace tree_right_1
def lv : Live := []
theorem start (a0_0 : Int) (a0_1 : Int) (c : (Bool × Unit)) (h :
    optAll (order_Check.R a0_0 a0_1) fun (c0 : (Int × Unit)) =>
    c = (((c0).1 != (0 : Int)), ())) : R a0_0 a0_1 = some c := start_rule (n := 400) (lv := lv) (noSum_ok _) (by kernel_rfl) h
end tree_right_1
end Go.AI
