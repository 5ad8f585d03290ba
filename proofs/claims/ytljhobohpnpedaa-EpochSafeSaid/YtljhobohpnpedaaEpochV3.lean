/-
  Own work. The epochs' seventh law: the arguments.
-/
import Derived.Test.YtljhobohpnpedaaEpochV
import Derived.Test.YtljhobohpnpedaaEpochS
namespace Go.AI
open Go
set_option linter.unusedVariables false
set_option linter.unusedSimpArgs false
namespace Epoch
theorem safe_val (vs : List AV) (h : ArgsOK cfg.P [3, 43] vs) : valω cfg 5 vs = some (.d (.v (.bool true))) := by
  obtain ⟨x0, r, rfl, h0, h⟩ := argsOK_cons h
  obtain ⟨x1, r, rfl, h1, h⟩ := argsOK_cons h
  obtain rfl := argsOK_nil h
  obtain ⟨n, rfl, _⟩ := a_int h0
  obtain ⟨l, rfl⟩ := a_acts h1
  exact val_of_ret (Safe.safe_law n l)
end Epoch
end Go.AI
