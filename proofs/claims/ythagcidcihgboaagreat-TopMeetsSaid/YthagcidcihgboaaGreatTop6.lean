/-
  Own work, printed by gen_meets.py. TopMeets' own states: ahead of Run, behind rounds, at the end; by the kernel.
-/
import Derived.Test.YthagcidcihgboaaGreatTop5
namespace Go.AI
open Go
set_option linter.unusedVariables false
namespace Top
abbrev rw_ (rows : List (List DV)) : AV := .d (.lst 1 rows)
noncomputable def w4 : Code := codeOf Go.Proofs.Tryz.f4
noncomputable def Aof (n : Nat) : Code := partC (List.replicate n 1) w4
abbrev F4 : Fm := ⟨0, 117, true, [], false⟩
noncomputable def KK : BCall := bcall cfg big
noncomputable def c19a : Code := partC [1, 0, 1, 0] w4
theorem cnd_is : partC [1, 0, 1] w4 = .cond (.tmp 19) c19a .skip := by kernel_rfl
noncomputable def g25 : Array Oper := opsC (partC [1, 1, 1, 1, 1, 1, 1, 1, 1, 1, 1, 1, 1, 1, 1, 1, 1, 0, 1, 0, 0, 1, 0, 0, 1, 0] w4)
noncomputable def op20 : Oper := match g25.toList.drop 20 with
  | o :: _ => o
  | [] => { dst := none, op := .move (.tmp 0), type := 0, pos := "", after := #[], guard := none }
noncomputable def cheat : Oper := { op20 with op := .move (.const (.bool false)) }
theorem g25_split : g25.toList = g25.toList.take 20 ++ (op20 :: g25.toList.drop 21) := by kernel_rfl
theorem op20_is : op20.op = .binOp .neq 2 (.tmp 99) (.tmp 100) 2 := by kernel_rfl
theorem cheat_is : cheat.op = .move (.const (.bool false)) := rfl
theorem op20_deep (F : Fm) : isDeep F op20 = false := by kernel_rfl
theorem cheat_deep (F : Fm) : isDeep F cheat = false := by kernel_rfl
noncomputable def t1t (v : Int) (rows : List (List DV)) : Tr AV := ofT [(0, i v), (1, rw_ rows), (2, tt), (6, ff), (17, rw_ rows), (18, i (rows.length : Nat)), (19, B (decide ((rows.length : Int) > 600)))]
noncomputable def t12t (v : Int) (rows : List (List DV)) : Tr AV := ofT [(0, i v), (1, rw_ rows), (2, tt), (6, ff), (7, .ptr 531 0 0 0), (8, i 0), (9, .ptr 1377 0 0 0), (10, .ptr 1441 0 0 0), (11, i 1), (12, i 0), (17, rw_ rows), (18, i (rows.length : Nat)), (19, B (decide ((rows.length : Int) > 600))), (21, .tup [.ptr 531 0 0 0, i 0]), (22, .tup [.ptr 531 0 0 0, i 0]), (23, .ptr 531 0 0 0), (24, i 0), (25, i 0), (26, i 0), (27, ff), (28, ff), (29, .ptr 531 0 0 0), (30, ff), (31, ff), (32, u 65), (33, i v), (34, .agg [i 8, u 65, u 0, i 0, i 0, i 0, i 0, i v]), (35, u 65), (36, .agg [i 9, u 65, u 0, i 0, i 0, i 0, i 0, i 0]), (37, tt), (38, .ptr 531 0 0 0), (39, i 1), (40, .agg [i 9, u 65, u 0, i 0, i 0, i 0, i 0, i 0]), (41, .ref 1601 0 0 1), (42, i 0)]
def h12t (v : Int) : List (Nat × ABlk) := [(387, .row 8 0 ([[L 8 [[j 2, j 0, j 3, j 0, j 0, j 0, j (-1), j 0], [j 2, j 0, j 3, j 0, j 0, j 0, j (-1), j 0], [j 1, j 0, j 1, j 0, j 1024, j 0, j (-1), j 0], [j 1, j 0, j 1, j 1024, j 1024, j 0, j (-1), j 0], [j 4, j 0, j 2, j 0, j 0, j 0, j (-1), j 0], [j 0, j 0, j 0, j 0, j 0, j 0, j (-1), j 0], [j 0, j 0, j 0, j 0, j 0, j 0, j (-1), j 0], [j 0, j 0, j 0, j 0, j 0, j 0, j (-1), j 0], [j 0, j 0, j 0, j 0, j 0, j 0, j (-1), j 0]], L 1 [[l 1 [[j 6], [j 8]]], [l 1 [[j 5], [j 7]]]], L 1 [[l 5 [[j 1, j 15, j 0, j 2, j 0], [j 4, j 15, j 0, j 4, j 0], [j 0, j 0, j 0, j 0, j 0], [j 0, j 0, j 0, j 0, j 0], [j 0, j 0, j 0, j 0, j 0], [j 0, j 0, j 0, j 0, j 0], [j 0, j 0, j 0, j 0, j 0], [j 0, j 0, j 0, j 0, j 0]]], [l 5 [[j 1, j 15, j 0, j 3, j 0], [j 4, j 15, j 0, j 4, j 0], [j 0, j 0, j 0, j 0, j 0], [j 0, j 0, j 0, j 0, j 0], [j 0, j 0, j 0, j 0, j 0], [j 0, j 0, j 0, j 0, j 0], [j 0, j 0, j 0, j 0, j 0], [j 0, j 0, j 0, j 0, j 0]]], [l 5 []], [l 5 []], [l 5 []], [l 5 []], [l 5 []], [l 5 []], [l 5 []]], L 4 [[j 0, j 0, j 0, bf], [j 0, j 1, j 0, bf], [j 1, j 0, j 0, bf], [j 1, j 1, j 0, bf]], L 3 [[j 0, j 0, l 8 []], [j 0, j 0, l 8 []], [j 0, j 0, l 8 []], [j 0, j 0, l 8 []], [j 0, j 0, l 8 []], [j 0, j 0, l 8 []], [j 0, j 0, l 8 []], [j 0, j 0, l 8 []], [j 0, j 0, l 8 []]], L 1 [[l 1 []], [l 1 []]], L 1 [[j 0], [j 1]], L 4 [[bf, j 0, j 0, bf], [bf, j 0, j 0, bf]]]])),
  (388, .row 8 0 ([])),
  (389, .row 1 0 ([])),
  (390, .row 1 0 ([])),
  (391, .row 4 0 ([])),
  (392, .row 3 0 ([])),
  (393, .row 1 0 ([])),
  (394, .row 1 0 ([])),
  (395, .row 4 0 ([])),
  (499, .row 24 0 ([[.nil 8, i 0, u 0, u 0, i 0, i 0, i 0, i 0, i 0, ff, i 0, i 0, .nil 1, i 0, i 0, i 0, ff, ff, i 0, i 0, i 0, ff, ff, .nil 1], [.ref 2463 0 0 1, i 0, u 0, u 0, i 0, i 0, i 0, i 0, i 0, ff, i 0, i 0, .nil 1, i 0, i 0, i 0, ff, ff, i 0, i 0, i 0, ff, ff, .nil 1]])),
  (531, .row 16 0 ([[L 8 [[j 2, j 0, j 3, j 0, j 0, j 0, j (-1), j 0], [j 2, j 0, j 3, j 0, j 0, j 0, j (-1), j 0], [j 1, j 0, j 1, j 0, j 1024, j 0, j (-1), j 0], [j 1, j 0, j 1, j 1024, j 1024, j 0, j (-1), j 0], [j 4, j 0, j 2, j 0, j 0, j 0, j (-1), j 0], [j 0, j 0, j 0, j 0, j 0, j 0, j (-1), j 0], [j 0, j 0, j 0, j 0, j 0, j 0, j (-1), j 0], [j 0, j 0, j 0, j 0, j 0, j 0, j (-1), j 0], [j 0, j 0, j 0, j 0, j 0, j 0, j (-1), j 0]], L 1 [[l 1 [[j 6], [j 8]]], [l 1 [[j 5], [j 7]]]], L 1 [[l 5 [[j 1, j 15, j 0, j 2, j 0], [j 4, j 15, j 0, j 4, j 0], [j 0, j 0, j 0, j 0, j 0], [j 0, j 0, j 0, j 0, j 0], [j 0, j 0, j 0, j 0, j 0], [j 0, j 0, j 0, j 0, j 0], [j 0, j 0, j 0, j 0, j 0], [j 0, j 0, j 0, j 0, j 0]]], [l 5 [[j 1, j 15, j 0, j 3, j 0], [j 4, j 15, j 0, j 4, j 0], [j 0, j 0, j 0, j 0, j 0], [j 0, j 0, j 0, j 0, j 0], [j 0, j 0, j 0, j 0, j 0], [j 0, j 0, j 0, j 0, j 0], [j 0, j 0, j 0, j 0, j 0], [j 0, j 0, j 0, j 0, j 0]]], [l 5 []], [l 5 []], [l 5 []], [l 5 []], [l 5 []], [l 5 []], [l 5 []]], L 4 [[j 0, j 0, j 0, bf], [j 0, j 1, j 0, bf], [j 1, j 0, j 0, bf], [j 1, j 1, j 0, bf]], L 3 [[j 0, j 0, l 8 []], [j 0, j 0, l 8 []], [j 0, j 0, l 8 []], [j 0, j 0, l 8 []], [j 0, j 0, l 8 []], [j 0, j 0, l 8 []], [j 0, j 0, l 8 []], [j 0, j 0, l 8 []], [j 0, j 0, l 8 []]], L 1 [[l 1 []], [l 1 []]], L 1 [[j 0], [j 1]], L 4 [[bf, j 0, j 0, bf], [bf, j 0, j 0, bf]], i 1, L 1 [[j 0], [j 0]], L 1 [[l 2 []], [l 2 []]], .ptr 913 0 0 0, .ref 499 0 0 2, .ref 534 0 0 0, .ref 535 0 0 0, i 0]])),
  (532, .row 1 0 ([])),
  (533, .row 1 0 ([])),
  (534, .row 15 0 ([])),
  (535, .row 12 0 ([])),
  (881, .row 1 0 (List.replicate 576 [i 0])),
  (913, .row 3 0 ([[.ref 881 0 0 576, i 0, .ref 914 0 0 0]])),
  (914, .row 7 0 ([])),
  (1377, .row 8 0 ([[i 8, u 65, u 0, i 0, i 0, i 0, i 0, i v]])),
  (1441, .row 8 0 ([[i 9, u 65, u 0, i 0, i 0, i 0, i 0, i 0]])),
  (1601, .row 8 0 ([[i 9, u 65, u 0, i 0, i 0, i 0, i 0, i 0]])),
  (2463, .row 8 0 ([[i 9, u 65, u 0, i 0, i 0, i 0, i 0, i 0]]))]
noncomputable def t14t (v : Int) (rows : List (List DV)) (ra : AV) : Tr AV := bputT (bputT (bputT (bputT (bputT (t12t v rows) (some 43) kp) (some 44) (rw_ rows)) (some 45) ra) (some 46) kp) (some 47) (.tup [])
noncomputable def t16t (v : Int) (rows : List (List DV)) (ra : AV) : Tr AV := ofT [(0, i v), (1, rw_ rows), (2, tt), (6, ff), (7, .ptr 531 0 0 0), (8, i 0), (9, .ptr 1377 0 0 0), (10, .ptr 1441 0 0 0), (11, i 1), (12, i 0), (13, tt), (17, rw_ rows), (18, i (rows.length : Nat)), (19, B (decide ((rows.length : Int) > 600))), (21, .tup [.ptr 531 0 0 0, i 0]), (22, .tup [.ptr 531 0 0 0, i 0]), (23, .ptr 531 0 0 0), (24, i 0), (25, i 0), (26, i 0), (27, ff), (28, ff), (29, .ptr 531 0 0 0), (30, ff), (31, ff), (32, u 65), (33, i v), (34, .agg [i 8, u 65, u 0, i 0, i 0, i 0, i 0, i v]), (35, u 65), (36, .agg [i 9, u 65, u 0, i 0, i 0, i 0, i 0, i 0]), (37, tt), (38, .ptr 531 0 0 0), (39, i 1), (40, .agg [i 9, u 65, u 0, i 0, i 0, i 0, i 0, i 0]), (41, .ref 1601 0 0 1), (42, i 0), (43, .ptr 531 0 0 0), (44, rw_ rows), (45, ra), (46, .ptr 531 0 0 0), (47, .tup []), (48, .ptr 531 0 0 0), (49, i 1), (50, i 4), (51, tt), (52, .ptr 531 0 0 0), (53, i 0), (54, .agg [i 8, u 65, u 0, i 0, i 0, i 0, i 0, i v]), (55, .ref 3146505 0 0 1), (56, i 0)]
def h16t (v : Int) : List (Nat × ABlk) := [(387, .row 8 0 ([[L 8 [[j 2, j 0, j 3, j 0, j 0, j 0, j (-1), j 0], [j 2, j 0, j 3, j 0, j 0, j 0, j (-1), j 0], [j 1, j 0, j 1, j 0, j 1024, j 0, j (-1), j 0], [j 1, j 0, j 1, j 1024, j 1024, j 0, j (-1), j 0], [j 4, j 0, j 2, j 0, j 0, j 0, j (-1), j 0], [j 0, j 0, j 0, j 0, j 0, j 0, j (-1), j 0], [j 0, j 0, j 0, j 0, j 0, j 0, j (-1), j 0], [j 0, j 0, j 0, j 0, j 0, j 0, j (-1), j 0], [j 0, j 0, j 0, j 0, j 0, j 0, j (-1), j 0]], L 1 [[l 1 [[j 6], [j 8]]], [l 1 [[j 5], [j 7]]]], L 1 [[l 5 [[j 1, j 15, j 0, j 2, j 0], [j 4, j 15, j 0, j 4, j 0], [j 0, j 0, j 0, j 0, j 0], [j 0, j 0, j 0, j 0, j 0], [j 0, j 0, j 0, j 0, j 0], [j 0, j 0, j 0, j 0, j 0], [j 0, j 0, j 0, j 0, j 0], [j 0, j 0, j 0, j 0, j 0]]], [l 5 [[j 1, j 15, j 0, j 3, j 0], [j 4, j 15, j 0, j 4, j 0], [j 0, j 0, j 0, j 0, j 0], [j 0, j 0, j 0, j 0, j 0], [j 0, j 0, j 0, j 0, j 0], [j 0, j 0, j 0, j 0, j 0], [j 0, j 0, j 0, j 0, j 0], [j 0, j 0, j 0, j 0, j 0]]], [l 5 []], [l 5 []], [l 5 []], [l 5 []], [l 5 []], [l 5 []], [l 5 []]], L 4 [[j 0, j 0, j 0, bf], [j 0, j 1, j 0, bf], [j 1, j 0, j 0, bf], [j 1, j 1, j 0, bf]], L 3 [[j 0, j 0, l 8 []], [j 0, j 0, l 8 []], [j 0, j 0, l 8 []], [j 0, j 0, l 8 []], [j 0, j 0, l 8 []], [j 0, j 0, l 8 []], [j 0, j 0, l 8 []], [j 0, j 0, l 8 []], [j 0, j 0, l 8 []]], L 1 [[l 1 []], [l 1 []]], L 1 [[j 0], [j 1]], L 4 [[bf, j 0, j 0, bf], [bf, j 0, j 0, bf]]]])),
  (388, .row 8 0 ([])),
  (389, .row 1 0 ([])),
  (390, .row 1 0 ([])),
  (391, .row 4 0 ([])),
  (392, .row 3 0 ([])),
  (393, .row 1 0 ([])),
  (394, .row 1 0 ([])),
  (395, .row 4 0 ([])),
  (499, .row 24 0 ([[.ref 3147367 0 0 1, i 0, u 0, u 0, i 0, i 0, i 0, i 0, i 0, ff, i 0, i 0, .nil 1, i 0, i 0, i 0, ff, ff, i 0, i 0, i 0, ff, ff, .nil 1], [.ref 2463 0 1 0, i 9, u 65, u 0, i 0, i 0, i 0, i 0, i 0, ff, i 4, i 2, L 1 [[j 9], [j 10], [j 11], [j 36]], i 5, i 0, i 0, tt, ff, i 0, i 0, i 0, ff, ff, .nil 1]])),
  (531, .row 16 0 ([[L 8 [[j 2, j 0, j 3, j 0, j 0, j 0, j (-1), j 0], [j 2, j 0, j 3, j 0, j 0, j 0, j (-1), j 0], [j 1, j 0, j 1, j 0, j 1024, j 0, j (-1), j 0], [j 1, j 0, j 1, j 1024, j 1024, j 0, j (-1), j 0], [j 4, j 0, j 2, j 0, j 0, j 0, j (-1), j 0], [j 0, j 0, j 0, j 0, j 0, j 0, j (-1), j 0], [j 0, j 0, j 0, j 0, j 0, j 0, j (-1), j 0], [j 0, j 0, j 0, j 0, j 0, j 0, j (-1), j 0], [j 0, j 0, j 0, j 0, j 0, j 0, j (-1), j 0]], L 1 [[l 1 [[j 6], [j 8]]], [l 1 [[j 5], [j 7]]]], L 1 [[l 5 [[j 1, j 15, j 0, j 2, j 0], [j 4, j 15, j 0, j 4, j 0], [j 0, j 0, j 0, j 0, j 0], [j 0, j 0, j 0, j 0, j 0], [j 0, j 0, j 0, j 0, j 0], [j 0, j 0, j 0, j 0, j 0], [j 0, j 0, j 0, j 0, j 0], [j 0, j 0, j 0, j 0, j 0]]], [l 5 [[j 1, j 15, j 0, j 3, j 0], [j 4, j 15, j 0, j 4, j 0], [j 0, j 0, j 0, j 0, j 0], [j 0, j 0, j 0, j 0, j 0], [j 0, j 0, j 0, j 0, j 0], [j 0, j 0, j 0, j 0, j 0], [j 0, j 0, j 0, j 0, j 0], [j 0, j 0, j 0, j 0, j 0]]], [l 5 []], [l 5 []], [l 5 []], [l 5 []], [l 5 []], [l 5 []], [l 5 []]], L 4 [[j 0, j 0, j 0, bf], [j 0, j 1, j 0, bf], [j 1, j 0, j 0, bf], [j 1, j 1, j 0, bf]], L 3 [[j 0, j 0, l 8 []], [j 0, j 0, l 8 []], [j 0, j 0, l 8 []], [j 0, j 0, l 8 []], [j 2, j 0, l 8 [[j 1, j 0, j 0, bf, j 0, j 0, j 0, bf]]], [j 0, j 0, l 8 []], [j 0, j 0, l 8 []], [j 0, j 0, l 8 []], [j 0, j 0, l 8 []]], L 1 [[l 1 []], [l 1 []]], L 1 [[j 0], [j 1]], L 4 [[bf, j 0, j 0, bf], [bf, j 0, j 0, bf]], i 1, L 1 [[j 0], [j 2]], L 1 [[l 2 []], [l 2 []]], .ptr 913 0 0 0, .ref 499 0 0 2, L 15 [[j 1, j 9, w 65, w 0, j 0, j 0, j 0, j 0, j 0, j 1, j 0, j 0, j 0, j 0, bf]], L 12 [[j 0, j 1, j 9, w 65, w 0, j 0, j 0, j 0, j 0, j 0, j 7, l 5 []]], i 11]])),
  (532, .row 1 0 ([])),
  (533, .row 1 0 ([])),
  (534, .row 15 1 ([])),
  (535, .row 12 1 ([])),
  (881, .row 1 0 (List.replicate 576 [i 0])),
  (913, .row 3 0 ([[.ref 881 0 0 576, i 8, .ref 914 8 0 8]])),
  (914, .row 7 8 ([[i 4, i 9, i 0, i 0, i 2, i 0, tt], [i 4, i 10, i 0, i 0, i 2, i 0, tt], [i 4, i 11, i 0, i 0, i 2, i 0, tt], [i 4, i 36, i 0, i 0, i 2, i 0, tt], [i 5, i 36, i 0, i 0, i 2, i 2, tt], [i 5, i 11, i 0, i 0, i 2, i 2, tt], [i 5, i 10, i 0, i 0, i 2, i 2, tt], [i 5, i 9, i 0, i 0, i 2, i 2, tt]])),
  (1377, .row 8 0 ([[i 8, u 65, u 0, i 0, i 0, i 0, i 0, i v]])),
  (1441, .row 8 0 ([[i 9, u 65, u 0, i 0, i 0, i 0, i 0, i 0]])),
  (1601, .row 8 0 ([[i 9, u 65, u 0, i 0, i 0, i 0, i 0, i 0]])),
  (2463, .row 8 0 ([[i 9, u 65, u 0, i 0, i 0, i 0, i 0, i 0]])),
  (3146505, .row 8 0 ([[i 8, u 65, u 0, i 0, i 0, i 0, i 0, i v]])),
  (3147367, .row 8 0 ([[i 8, u 65, u 0, i 0, i 0, i 0, i 0, i v]]))]
noncomputable def t18t (v : Int) (rows : List (List DV)) (ra rb : AV) : Tr AV := bputT (bputT (bputT (bputT (bputT (t16t v rows ra) (some 57) kp) (some 58) (rw_ rows)) (some 59) rb) (some 60) kp) (some 61) (.tup [])
theorem x1t (v : Int) (rows : List (List DV)) : bgo cfg KK F4 5 ⟨[.code w4], bargs 0 [i v, rw_ rows, B true], .lf, 117⟩ = some ⟨[.code (partC [1, 0, 1] w4), .code (Aof 2)], t1t v rows, .lf, 181⟩ := by kernel_rfl
theorem x12t (v : Int) (rows : List (List DV)) : bgo cfg KK F4 21 ⟨[.code .skip, .code (Aof 2)], t1t v rows, .lf, 181⟩ = some ⟨[.code (Aof 9)], t12t v rows, ofL (h12t v), 2543⟩ := by kernel_rfl
theorem s12t (v : Int) : FKt1.map (hp (ofL (h12t v))) = t1_0 v := by kernel_rfl
theorem fl12t (v : Int) : flatL 2575 (h12t v) = true := by kernel_rfl
theorem x16t (v : Int) (rows : List (List DV)) (ra : AV) : bgo cfg KK F4 4 ⟨[.code (Aof 11)], t14t v rows ra, putAll (ofL (h12t v)) FKt1 (t1_11 v), 3145808⟩ = some ⟨[.code (Aof 13)], t16t v rows ra, ofL (h16t v), 3147447⟩ := by kernel_rfl
theorem s16t (v : Int) : FKt2.map (hp (ofL (h16t v))) = t2_0 v := by kernel_rfl
theorem fl16t (v : Int) : flatL 3147479 (h16t v) = true := by kernel_rfl
noncomputable def t1f (v : Int) (rows : List (List DV)) : Tr AV := ofT [(0, i v), (1, rw_ rows), (2, ff), (6, ff), (17, rw_ rows), (18, i (rows.length : Nat)), (19, B (decide ((rows.length : Int) > 600)))]
noncomputable def t12f (v : Int) (rows : List (List DV)) : Tr AV := ofT [(0, i v), (1, rw_ rows), (2, ff), (6, ff), (7, .ptr 531 0 0 0), (8, i 0), (9, .ptr 1377 0 0 0), (10, .ptr 1441 0 0 0), (11, i 0), (12, i 1), (17, rw_ rows), (18, i (rows.length : Nat)), (19, B (decide ((rows.length : Int) > 600))), (21, .tup [.ptr 531 0 0 0, i 0]), (22, .tup [.ptr 531 0 0 0, i 0]), (23, .ptr 531 0 0 0), (24, i 0), (25, i 0), (26, i 0), (27, ff), (28, ff), (29, .ptr 531 0 0 0), (30, ff), (31, ff), (32, u 65), (33, i v), (34, .agg [i 8, u 65, u 0, i 0, i 0, i 0, i 0, i v]), (35, u 65), (36, .agg [i 9, u 65, u 0, i 0, i 0, i 0, i 0, i 0]), (37, ff), (38, .ptr 531 0 0 0), (39, i 0), (40, .agg [i 9, u 65, u 0, i 0, i 0, i 0, i 0, i 0]), (41, .ref 1569 0 0 1), (42, i 0)]
def h12f (v : Int) : List (Nat × ABlk) := [(387, .row 8 0 ([[L 8 [[j 2, j 0, j 3, j 0, j 0, j 0, j (-1), j 0], [j 2, j 0, j 3, j 0, j 0, j 0, j (-1), j 0], [j 1, j 0, j 1, j 0, j 1024, j 0, j (-1), j 0], [j 1, j 0, j 1, j 1024, j 1024, j 0, j (-1), j 0], [j 4, j 0, j 2, j 0, j 0, j 0, j (-1), j 0], [j 0, j 0, j 0, j 0, j 0, j 0, j (-1), j 0], [j 0, j 0, j 0, j 0, j 0, j 0, j (-1), j 0], [j 0, j 0, j 0, j 0, j 0, j 0, j (-1), j 0], [j 0, j 0, j 0, j 0, j 0, j 0, j (-1), j 0]], L 1 [[l 1 [[j 6], [j 8]]], [l 1 [[j 5], [j 7]]]], L 1 [[l 5 [[j 1, j 15, j 0, j 2, j 0], [j 4, j 15, j 0, j 4, j 0], [j 0, j 0, j 0, j 0, j 0], [j 0, j 0, j 0, j 0, j 0], [j 0, j 0, j 0, j 0, j 0], [j 0, j 0, j 0, j 0, j 0], [j 0, j 0, j 0, j 0, j 0], [j 0, j 0, j 0, j 0, j 0]]], [l 5 [[j 1, j 15, j 0, j 3, j 0], [j 4, j 15, j 0, j 4, j 0], [j 0, j 0, j 0, j 0, j 0], [j 0, j 0, j 0, j 0, j 0], [j 0, j 0, j 0, j 0, j 0], [j 0, j 0, j 0, j 0, j 0], [j 0, j 0, j 0, j 0, j 0], [j 0, j 0, j 0, j 0, j 0]]], [l 5 []], [l 5 []], [l 5 []], [l 5 []], [l 5 []], [l 5 []], [l 5 []]], L 4 [[j 0, j 0, j 0, bf], [j 0, j 1, j 0, bf], [j 1, j 0, j 0, bf], [j 1, j 1, j 0, bf]], L 3 [[j 0, j 0, l 8 []], [j 0, j 0, l 8 []], [j 0, j 0, l 8 []], [j 0, j 0, l 8 []], [j 0, j 0, l 8 []], [j 0, j 0, l 8 []], [j 0, j 0, l 8 []], [j 0, j 0, l 8 []], [j 0, j 0, l 8 []]], L 1 [[l 1 []], [l 1 []]], L 1 [[j 0], [j 1]], L 4 [[bf, j 0, j 0, bf], [bf, j 0, j 0, bf]]]])),
  (388, .row 8 0 ([])),
  (389, .row 1 0 ([])),
  (390, .row 1 0 ([])),
  (391, .row 4 0 ([])),
  (392, .row 3 0 ([])),
  (393, .row 1 0 ([])),
  (394, .row 1 0 ([])),
  (395, .row 4 0 ([])),
  (499, .row 24 0 ([[.ref 2431 0 0 1, i 0, u 0, u 0, i 0, i 0, i 0, i 0, i 0, ff, i 0, i 0, .nil 1, i 0, i 0, i 0, ff, ff, i 0, i 0, i 0, ff, ff, .nil 1], [.nil 8, i 0, u 0, u 0, i 0, i 0, i 0, i 0, i 0, ff, i 0, i 0, .nil 1, i 0, i 0, i 0, ff, ff, i 0, i 0, i 0, ff, ff, .nil 1]])),
  (531, .row 16 0 ([[L 8 [[j 2, j 0, j 3, j 0, j 0, j 0, j (-1), j 0], [j 2, j 0, j 3, j 0, j 0, j 0, j (-1), j 0], [j 1, j 0, j 1, j 0, j 1024, j 0, j (-1), j 0], [j 1, j 0, j 1, j 1024, j 1024, j 0, j (-1), j 0], [j 4, j 0, j 2, j 0, j 0, j 0, j (-1), j 0], [j 0, j 0, j 0, j 0, j 0, j 0, j (-1), j 0], [j 0, j 0, j 0, j 0, j 0, j 0, j (-1), j 0], [j 0, j 0, j 0, j 0, j 0, j 0, j (-1), j 0], [j 0, j 0, j 0, j 0, j 0, j 0, j (-1), j 0]], L 1 [[l 1 [[j 6], [j 8]]], [l 1 [[j 5], [j 7]]]], L 1 [[l 5 [[j 1, j 15, j 0, j 2, j 0], [j 4, j 15, j 0, j 4, j 0], [j 0, j 0, j 0, j 0, j 0], [j 0, j 0, j 0, j 0, j 0], [j 0, j 0, j 0, j 0, j 0], [j 0, j 0, j 0, j 0, j 0], [j 0, j 0, j 0, j 0, j 0], [j 0, j 0, j 0, j 0, j 0]]], [l 5 [[j 1, j 15, j 0, j 3, j 0], [j 4, j 15, j 0, j 4, j 0], [j 0, j 0, j 0, j 0, j 0], [j 0, j 0, j 0, j 0, j 0], [j 0, j 0, j 0, j 0, j 0], [j 0, j 0, j 0, j 0, j 0], [j 0, j 0, j 0, j 0, j 0], [j 0, j 0, j 0, j 0, j 0]]], [l 5 []], [l 5 []], [l 5 []], [l 5 []], [l 5 []], [l 5 []], [l 5 []]], L 4 [[j 0, j 0, j 0, bf], [j 0, j 1, j 0, bf], [j 1, j 0, j 0, bf], [j 1, j 1, j 0, bf]], L 3 [[j 0, j 0, l 8 []], [j 0, j 0, l 8 []], [j 0, j 0, l 8 []], [j 0, j 0, l 8 []], [j 0, j 0, l 8 []], [j 0, j 0, l 8 []], [j 0, j 0, l 8 []], [j 0, j 0, l 8 []], [j 0, j 0, l 8 []]], L 1 [[l 1 []], [l 1 []]], L 1 [[j 0], [j 1]], L 4 [[bf, j 0, j 0, bf], [bf, j 0, j 0, bf]], i 1, L 1 [[j 0], [j 0]], L 1 [[l 2 []], [l 2 []]], .ptr 913 0 0 0, .ref 499 0 0 2, .ref 534 0 0 0, .ref 535 0 0 0, i 0]])),
  (532, .row 1 0 ([])),
  (533, .row 1 0 ([])),
  (534, .row 15 0 ([])),
  (535, .row 12 0 ([])),
  (881, .row 1 0 (List.replicate 576 [i 0])),
  (913, .row 3 0 ([[.ref 881 0 0 576, i 0, .ref 914 0 0 0]])),
  (914, .row 7 0 ([])),
  (1377, .row 8 0 ([[i 8, u 65, u 0, i 0, i 0, i 0, i 0, i v]])),
  (1441, .row 8 0 ([[i 9, u 65, u 0, i 0, i 0, i 0, i 0, i 0]])),
  (1569, .row 8 0 ([[i 9, u 65, u 0, i 0, i 0, i 0, i 0, i 0]])),
  (2431, .row 8 0 ([[i 9, u 65, u 0, i 0, i 0, i 0, i 0, i 0]]))]
noncomputable def t14f (v : Int) (rows : List (List DV)) (ra : AV) : Tr AV := bputT (bputT (bputT (bputT (bputT (t12f v rows) (some 43) kp) (some 44) (rw_ rows)) (some 45) ra) (some 46) kp) (some 47) (.tup [])
noncomputable def t16f (v : Int) (rows : List (List DV)) (ra : AV) : Tr AV := ofT [(0, i v), (1, rw_ rows), (2, ff), (6, ff), (7, .ptr 531 0 0 0), (8, i 0), (9, .ptr 1377 0 0 0), (10, .ptr 1441 0 0 0), (11, i 0), (12, i 1), (13, tt), (17, rw_ rows), (18, i (rows.length : Nat)), (19, B (decide ((rows.length : Int) > 600))), (21, .tup [.ptr 531 0 0 0, i 0]), (22, .tup [.ptr 531 0 0 0, i 0]), (23, .ptr 531 0 0 0), (24, i 0), (25, i 0), (26, i 0), (27, ff), (28, ff), (29, .ptr 531 0 0 0), (30, ff), (31, ff), (32, u 65), (33, i v), (34, .agg [i 8, u 65, u 0, i 0, i 0, i 0, i 0, i v]), (35, u 65), (36, .agg [i 9, u 65, u 0, i 0, i 0, i 0, i 0, i 0]), (37, ff), (38, .ptr 531 0 0 0), (39, i 0), (40, .agg [i 9, u 65, u 0, i 0, i 0, i 0, i 0, i 0]), (41, .ref 1569 0 0 1), (42, i 0), (43, .ptr 531 0 0 0), (44, rw_ rows), (45, ra), (46, .ptr 531 0 0 0), (47, .tup []), (48, .ptr 531 0 0 0), (49, i 0), (50, i 4), (51, tt), (52, .ptr 531 0 0 0), (53, i 1), (54, .agg [i 8, u 65, u 0, i 0, i 0, i 0, i 0, i v]), (55, .ref 3146505 0 0 1), (56, i 0)]
def h16f (v : Int) : List (Nat × ABlk) := [(387, .row 8 0 ([[L 8 [[j 2, j 0, j 3, j 0, j 0, j 0, j (-1), j 0], [j 2, j 0, j 3, j 0, j 0, j 0, j (-1), j 0], [j 1, j 0, j 1, j 0, j 1024, j 0, j (-1), j 0], [j 1, j 0, j 1, j 1024, j 1024, j 0, j (-1), j 0], [j 4, j 0, j 2, j 0, j 0, j 0, j (-1), j 0], [j 0, j 0, j 0, j 0, j 0, j 0, j (-1), j 0], [j 0, j 0, j 0, j 0, j 0, j 0, j (-1), j 0], [j 0, j 0, j 0, j 0, j 0, j 0, j (-1), j 0], [j 0, j 0, j 0, j 0, j 0, j 0, j (-1), j 0]], L 1 [[l 1 [[j 6], [j 8]]], [l 1 [[j 5], [j 7]]]], L 1 [[l 5 [[j 1, j 15, j 0, j 2, j 0], [j 4, j 15, j 0, j 4, j 0], [j 0, j 0, j 0, j 0, j 0], [j 0, j 0, j 0, j 0, j 0], [j 0, j 0, j 0, j 0, j 0], [j 0, j 0, j 0, j 0, j 0], [j 0, j 0, j 0, j 0, j 0], [j 0, j 0, j 0, j 0, j 0]]], [l 5 [[j 1, j 15, j 0, j 3, j 0], [j 4, j 15, j 0, j 4, j 0], [j 0, j 0, j 0, j 0, j 0], [j 0, j 0, j 0, j 0, j 0], [j 0, j 0, j 0, j 0, j 0], [j 0, j 0, j 0, j 0, j 0], [j 0, j 0, j 0, j 0, j 0], [j 0, j 0, j 0, j 0, j 0]]], [l 5 []], [l 5 []], [l 5 []], [l 5 []], [l 5 []], [l 5 []], [l 5 []]], L 4 [[j 0, j 0, j 0, bf], [j 0, j 1, j 0, bf], [j 1, j 0, j 0, bf], [j 1, j 1, j 0, bf]], L 3 [[j 0, j 0, l 8 []], [j 0, j 0, l 8 []], [j 0, j 0, l 8 []], [j 0, j 0, l 8 []], [j 0, j 0, l 8 []], [j 0, j 0, l 8 []], [j 0, j 0, l 8 []], [j 0, j 0, l 8 []], [j 0, j 0, l 8 []]], L 1 [[l 1 []], [l 1 []]], L 1 [[j 0], [j 1]], L 4 [[bf, j 0, j 0, bf], [bf, j 0, j 0, bf]]]])),
  (388, .row 8 0 ([])),
  (389, .row 1 0 ([])),
  (390, .row 1 0 ([])),
  (391, .row 4 0 ([])),
  (392, .row 3 0 ([])),
  (393, .row 1 0 ([])),
  (394, .row 1 0 ([])),
  (395, .row 4 0 ([])),
  (499, .row 24 0 ([[.ref 2431 0 1 0, i 9, u 65, u 0, i 0, i 0, i 0, i 0, i 0, ff, i 4, i 1, L 1 [[j 0], [j 1], [j 2], [j 10], [j 36]], i 5, i 0, i 0, tt, ff, i 0, i 0, i 0, ff, ff, .nil 1], [.ref 3147367 0 0 1, i 0, u 0, u 0, i 0, i 0, i 0, i 0, i 0, ff, i 0, i 0, .nil 1, i 0, i 0, i 0, ff, ff, i 0, i 0, i 0, ff, ff, .nil 1]])),
  (531, .row 16 0 ([[L 8 [[j 2, j 0, j 3, j 0, j 0, j 0, j (-1), j 0], [j 2, j 0, j 3, j 0, j 0, j 0, j (-1), j 0], [j 1, j 0, j 1, j 0, j 1024, j 0, j (-1), j 0], [j 1, j 0, j 1, j 1024, j 1024, j 0, j (-1), j 0], [j 4, j 0, j 2, j 0, j 0, j 0, j (-1), j 0], [j 0, j 0, j 0, j 0, j 0, j 0, j (-1), j 0], [j 0, j 0, j 0, j 0, j 0, j 0, j (-1), j 0], [j 0, j 0, j 0, j 0, j 0, j 0, j (-1), j 0], [j 0, j 0, j 0, j 0, j 0, j 0, j (-1), j 0]], L 1 [[l 1 [[j 6], [j 8]]], [l 1 [[j 5], [j 7]]]], L 1 [[l 5 [[j 1, j 15, j 0, j 2, j 0], [j 4, j 15, j 0, j 4, j 0], [j 0, j 0, j 0, j 0, j 0], [j 0, j 0, j 0, j 0, j 0], [j 0, j 0, j 0, j 0, j 0], [j 0, j 0, j 0, j 0, j 0], [j 0, j 0, j 0, j 0, j 0], [j 0, j 0, j 0, j 0, j 0]]], [l 5 [[j 1, j 15, j 0, j 3, j 0], [j 4, j 15, j 0, j 4, j 0], [j 0, j 0, j 0, j 0, j 0], [j 0, j 0, j 0, j 0, j 0], [j 0, j 0, j 0, j 0, j 0], [j 0, j 0, j 0, j 0, j 0], [j 0, j 0, j 0, j 0, j 0], [j 0, j 0, j 0, j 0, j 0]]], [l 5 []], [l 5 []], [l 5 []], [l 5 []], [l 5 []], [l 5 []], [l 5 []]], L 4 [[j 0, j 0, j 0, bf], [j 0, j 1, j 0, bf], [j 1, j 0, j 0, bf], [j 1, j 1, j 0, bf]], L 3 [[j 0, j 0, l 8 []], [j 0, j 0, l 8 []], [j 0, j 0, l 8 []], [j 0, j 0, l 8 []], [j 2, j 0, l 8 [[j 0, j 0, j 0, bf, j 0, j 0, j 0, bf]]], [j 0, j 0, l 8 []], [j 0, j 0, l 8 []], [j 0, j 0, l 8 []], [j 0, j 0, l 8 []]], L 1 [[l 1 []], [l 1 []]], L 1 [[j 0], [j 1]], L 4 [[bf, j 0, j 0, bf], [bf, j 0, j 0, bf]], i 1, L 1 [[j 2], [j 0]], L 1 [[l 2 []], [l 2 []]], .ptr 913 0 0 0, .ref 499 0 0 2, L 15 [[j 0, j 9, w 65, w 0, j 0, j 0, j 0, j 0, j 0, j 1, j 0, j 0, j 0, j 0, bf]], L 12 [[j 0, j 0, j 9, w 65, w 0, j 0, j 0, j 0, j 0, j 0, j 8, l 5 []]], i 13]])),
  (532, .row 1 0 ([])),
  (533, .row 1 0 ([])),
  (534, .row 15 1 ([])),
  (535, .row 12 1 ([])),
  (881, .row 1 0 (List.replicate 576 [i 0])),
  (913, .row 3 0 ([[.ref 881 0 0 576, i 10, .ref 914 10 0 10]])),
  (914, .row 7 10 ([[i 4, i 0, i 0, i 0, i 1, i 0, tt]] ++ [[i 4, i 1, i 0, i 0, i 1, i 0, tt]] ++ [[i 4, i 2, i 0, i 0, i 1, i 0, tt]] ++ [[i 4, i 10, i 0, i 0, i 1, i 0, tt]] ++ [[i 4, i 36, i 0, i 0, i 1, i 0, tt]] ++ [[i 5, i 36, i 0, i 0, i 1, i 1, tt]] ++ [[i 5, i 10, i 0, i 0, i 1, i 1, tt]] ++ [[i 5, i 2, i 0, i 0, i 1, i 1, tt]] ++ [[i 5, i 1, i 0, i 0, i 1, i 1, tt]] ++ [[i 5, i 0, i 0, i 0, i 1, i 1, tt]])),
  (1377, .row 8 0 ([[i 8, u 65, u 0, i 0, i 0, i 0, i 0, i v]])),
  (1441, .row 8 0 ([[i 9, u 65, u 0, i 0, i 0, i 0, i 0, i 0]])),
  (1569, .row 8 0 ([[i 9, u 65, u 0, i 0, i 0, i 0, i 0, i 0]])),
  (2431, .row 8 0 ([[i 9, u 65, u 0, i 0, i 0, i 0, i 0, i 0]])),
  (3146505, .row 8 0 ([[i 8, u 65, u 0, i 0, i 0, i 0, i 0, i v]])),
  (3147367, .row 8 0 ([[i 8, u 65, u 0, i 0, i 0, i 0, i 0, i v]]))]
noncomputable def t18f (v : Int) (rows : List (List DV)) (ra rb : AV) : Tr AV := bputT (bputT (bputT (bputT (bputT (t16f v rows ra) (some 57) kp) (some 58) (rw_ rows)) (some 59) rb) (some 60) kp) (some 61) (.tup [])
theorem x1f (v : Int) (rows : List (List DV)) : bgo cfg KK F4 5 ⟨[.code w4], bargs 0 [i v, rw_ rows, B false], .lf, 117⟩ = some ⟨[.code (partC [1, 0, 1] w4), .code (Aof 2)], t1f v rows, .lf, 181⟩ := by kernel_rfl
theorem x12f (v : Int) (rows : List (List DV)) : bgo cfg KK F4 21 ⟨[.code .skip, .code (Aof 2)], t1f v rows, .lf, 181⟩ = some ⟨[.code (Aof 9)], t12f v rows, ofL (h12f v), 2511⟩ := by kernel_rfl
theorem s12f (v : Int) : FKf1.map (hp (ofL (h12f v))) = f1_0 v := by kernel_rfl
theorem fl12f (v : Int) : flatL 2543 (h12f v) = true := by kernel_rfl
theorem x16f (v : Int) (rows : List (List DV)) (ra : AV) : bgo cfg KK F4 4 ⟨[.code (Aof 11)], t14f v rows ra, putAll (ofL (h12f v)) FKf1 (f1_13 v), 3145808⟩ = some ⟨[.code (Aof 13)], t16f v rows ra, ofL (h16f v), 3147447⟩ := by kernel_rfl
theorem s16f (v : Int) : FKf2.map (hp (ofL (h16f v))) = f2_0 v := by kernel_rfl
theorem fl16f (v : Int) : flatL 3147479 (h16f v) = true := by kernel_rfl
end Top
end Go.AI
