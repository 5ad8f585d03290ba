/-
  Own work. How each function of this seat is called by the value interpreter.
-/
import Derived.Test.YtebkdpcgbnlfcaaAiObs
import Derived.Test.YtebkdpcgbnlfcaaAiModes
import Derived.Test.YtebkdpcgbnlfcaaProg
namespace Go.AI
open Go
def modes : List (Nat × Mode) := [(47, .own), (48, .inl), (50, .clone 22), (51, .clone 23), (53, .own)]
def nameds : List (Nat × List Nat) := [(6, [10, 9]), (16, [8])]
def virts : List Nat := [10, 14, 16]
noncomputable def cfg : Cfg where
  P := Go.Proofs.Try.prog
  mode := modeOf modes
  prim := fun _ _ => none
  trim := fun f => !([14] : List Nat).contains f
  names := fun f => match nameds.lookup f with | some l => l | none => []
  virt := fun f => virts.contains f
end Go.AI
