/-
  Own work. How each function of this seat is called by the value interpreter.
-/
import Derived.Test.YtjmpflgdmnoinaaAiUnroll
import Derived.Test.YtjmpflgdmnoinaaAiModes
import Derived.Test.YtjmpflgdmnoinaaProg
import Derived.Test.YtjmpflgdmnoinaaCollDef
namespace Go.AI
open Go
def modes : List (Nat × Mode) := [(34, .clone 31), (36, .inl), (39, .inl), (40, .inl), (44, .own), (45, .inl), (48, .sort false), (49, .sort true), (51, .inl), (55, .inl), (67, .inl), (70, .inl), (71, .clone 27)]
def nameds : List (Nat × List Nat) := [(11, [5]), (19, [4]), (20, [7]), (26, [2]), (29, [13]), (30, [4, 9]), (51, [8]), (57, [5, 6, 7])]
def virts : List Nat := [12, 15, 17, 29, 51]
noncomputable def cfg : Cfg where
  P := Go.Proofs.Try.prog
  mode := modeOf modes
  prim := fun f args => if f = 999999 then collOf 70 args else none
  trim := fun _ => true
  names := fun f => match nameds.lookup f with | some l => l | none => []
  virt := fun f => virts.contains f
  coll := some 999999
end Go.AI
