/-
  Own work. How each function of this seat is called by the value interpreter.
-/
import Derived.Test.YtcfglafjemagpaaAiObs
import Derived.Test.YtcfglafjemagpaaAiModes
import Derived.Test.YtcfglafjemagpaaProg
namespace Go.AI
open Go
def modes : List (Nat × Mode) := [(14, .fresh), (15, .inl), (16, .inl), (18, .inl), (22, .clone 22), (23, .sort false), (24, .sort true), (25, .inl), (26, .clone 50), (31, .cell), (65, .inl)]
def nameds : List (Nat × List Nat) := [(14, [6, 4, 99999])]
def virts : List Nat := [15]
noncomputable def cfg : Cfg where
  P := Go.Proofs.Try.prog
  mode := modeOf modes
  prim := fun _ _ => none
  trim := fun _ => true
  names := fun f => match nameds.lookup f with | some l => l | none => []
  virt := fun f => virts.contains f
  coll := none
end Go.AI
