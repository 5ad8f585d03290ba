/-
  Own work. How each function of this seat is called by the value interpreter.
-/
import Derived.Test.YtfgaoimljkibgaaAiObs
import Derived.Test.YtfgaoimljkibgaaAiModes
import Derived.Test.YtfgaoimljkibgaaProg
namespace Go.AI
open Go
def modes : List (Nat × Mode) := [(16, .inl), (18, .inl), (21, .inl), (22, .inl), (23, .inl), (25, .inl), (27, .inl), (28, .inl), (29, .clone 22), (30, .cell), (31, .clone 44)]
def nameds : List (Nat × List Nat) := [(8, [8]), (20, [3])]
def virts : List Nat := [16]
noncomputable def cfg : Cfg where
  P := Go.Proofs.Try.prog
  mode := modeOf modes
  prim := fun _ _ => none
  trim := fun _ => true
  names := fun f => match nameds.lookup f with | some l => l | none => []
  virt := fun f => virts.contains f
end Go.AI
