/-
  Own work. How each function of this seat is called by the value interpreter.
-/
import Derived.Test.YthagcidcihgboaaGreatAiBok
import Derived.Test.YthagcidcihgboaaGreatAiModes
import Derived.Test.YthagcidcihgboaaGreatProg
import Derived.Test.YthagcidcihgboaaGreatCollDef
namespace Go.AI
open Go
def modes : List (Nat × Mode) := [(5, .inl), (7, .box), (8, .inl), (9, .inl), (12, .inl), (13, .inl), (14, .inl), (15, .inl), (16, .inl), (17, .inl), (18, .inl), (21, .inl), (22, .clone 59), (23, .clone 60), (24, .inl), (25, .inl), (26, .inl), (27, .inl), (28, .inl), (29, .inl), (31, .box), (35, .inl), (40, .inl), (44, .box), (47, .inl), (50, .inl), (52, .inl), (60, .clone 31), (61, .clone 25), (66, .clone 113), (67, .inl), (79, .inl), (80, .inl), (82, .cell), (99, .clone 74), (104, .clone 73), (110, .box), (113, .inl), (120, .inl), (121, .inl), (126, .inl), (128, .inl), (131, .inl), (133, .prim), (134, .inl), (137, .inl), (138, .clone 121), (142, .box), (144, .inl), (154, .clone 37), (156, .clone 30), (157, .clone 35), (158, .clone 36), (159, .inl), (161, .inl), (169, .inl), (170, .inl), (174, .inl), (175, .inl), (176, .inl), (187, .inl), (189, .inl), (194, .inl), (199, .inl), (200, .inl), (201, .inl), (202, .inl), (203, .inl), (204, .inl), (205, .inl), (206, .inl), (207, .inl), (218, .box), (222, .inl), (224, .inl), (226, .inl), (227, .inl), (229, .inl), (232, .box), (238, .inl), (239, .inl), (265, .inl), (271, .clone 251), (272, .inl), (273, .inl), (275, .inl), (291, .inl), (292, .inl)]
def nameds : List (Nat × List Nat) := [(3, [11]), (25, [6]), (36, [6]), (74, [5]), (75, [7]), (112, [6]), (125, [8]), (137, [3]), (141, [4]), (142, [9])]
def virts : List Nat := [7, 8, 9, 12, 13, 14, 15, 16, 17, 18, 19, 21, 24, 25, 26, 27, 28, 29, 35, 40, 47, 50, 52, 120, 291]
noncomputable def cfg : Cfg where
  P := Go.Proofs.Tryz.prog
  mode := modeOf modes
  prim := fun f args => if f = 133 then collOf 175 args else none
  trim := fun f => !([9, 19, 29, 31, 120] : List Nat).contains f
  names := fun f => match nameds.lookup f with | some l => l | none => []
  virt := fun f => virts.contains f
  coll := some 133
end Go.AI
