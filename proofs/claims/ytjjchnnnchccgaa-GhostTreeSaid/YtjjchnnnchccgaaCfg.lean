/-
  Own work. How each function of this seat is called by the value interpreter.
-/
import Derived.Test.YtjjchnnnchccgaaAiObs
import Derived.Test.YtjjchnnnchccgaaAiModes
import Derived.Test.YtjjchnnnchccgaaProg
import Derived.Test.YtjjchnnnchccgaaCollDef
namespace Go.AI
open Go
def modes : List (Nat × Mode) := [(58, .inl), (59, .clone 22), (60, .inl), (61, .clone 23), (76, .own), (77, .inl), (78, .prim), (79, .inl), (90, .inl), (94, .clone 52)]
def nameds : List (Nat × List Nat) := [(16, [8]), (30, [4]), (45, [7])]
def virts : List Nat := []
noncomputable def cfg : Cfg where
  P := Go.Proofs.Try.prog
  mode := modeOf modes
  prim := fun f args => if f = 78 then collOf 90 args else none
  trim := fun _ => true
  names := fun f => match nameds.lookup f with | some l => l | none => []
  virt := fun f => virts.contains f
  coll := some 78
end Go.AI
