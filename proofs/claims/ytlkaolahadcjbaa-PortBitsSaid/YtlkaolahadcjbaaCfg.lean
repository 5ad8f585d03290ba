/-
  Own work. How each function of this seat is called by the value interpreter.
-/
import Derived.Test.YtlkaolahadcjbaaAiObs
import Derived.Test.YtlkaolahadcjbaaAiModes
import Derived.Test.YtlkaolahadcjbaaProg
namespace Go.AI
open Go
def modes : List (Nat × Mode) := [(27, .inl), (29, .own), (41, .own), (42, .inl), (43, .clone 24), (44, .inl)]
def nameds : List (Nat × List Nat) := [(4, [4]), (6, [7])]
def virts : List Nat := []
noncomputable def cfg : Cfg where
  P := Go.Proofs.Try.prog
  mode := modeOf modes
  prim := fun _ _ => none
  trim := fun _ => true
  names := fun f => match nameds.lookup f with | some l => l | none => []
  virt := fun f => virts.contains f
end Go.AI
