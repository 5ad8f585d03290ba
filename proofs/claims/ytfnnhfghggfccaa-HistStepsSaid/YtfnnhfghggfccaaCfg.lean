/-
  Own work. How each function of this seat is called by the value interpreter.
-/
import Derived.Test.YtfnnhfghggfccaaAiObs
import Derived.Test.YtfnnhfghggfccaaAiModes
import Derived.Test.YtfnnhfghggfccaaProg
namespace Go.AI
open Go
def modes : List (Nat × Mode) := [(37, .clone 22), (38, .clone 23)]
def nameds : List (Nat × List Nat) := []
def virts : List Nat := []
noncomputable def cfg : Cfg where
  P := Go.Proofs.Try.prog
  mode := modeOf modes
  prim := fun _ _ => none
  trim := fun _ => true
  names := fun f => match nameds.lookup f with | some l => l | none => []
  virt := fun f => virts.contains f
end Go.AI
