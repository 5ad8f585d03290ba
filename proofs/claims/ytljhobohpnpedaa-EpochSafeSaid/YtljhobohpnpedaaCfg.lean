/-
  Own work. How each function of this seat is called by the value interpreter.
-/
import Derived.Test.YtljhobohpnpedaaAiHold
import Derived.Test.YtljhobohpnpedaaAiModes
import Derived.Test.YtljhobohpnpedaaProg
namespace Go.AI
open Go
def modes : List (Nat × Mode) := [(39, .inl), (40, .lend), (42, .clone 49), (46, .clone 22), (47, .lend), (48, .clone 23)]
def nameds : List (Nat × List Nat) := [(6, [11, 9]), (24, [6]), (31, [6, 7]), (5, [7, 8, 9, 50045, 60046, 70010, 900020, 900022, 900025, 900038, 900041])]
def virts : List Nat := [15]
noncomputable def cfg : Cfg where
  P := Go.Proofs.Try.prog
  mode := modeOf modes
  prim := fun _ _ => none
  trim := fun _ => true
  names := fun f => match nameds.lookup f with | some l => l | none => []
  virt := fun f => virts.contains f
  coll := none
end Go.AI
