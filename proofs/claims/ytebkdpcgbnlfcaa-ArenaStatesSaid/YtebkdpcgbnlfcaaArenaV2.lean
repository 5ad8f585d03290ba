/-
  Own work. The arenas' third law: the arguments.
-/
import Derived.Test.YtebkdpcgbnlfcaaArenaV
import Derived.Test.YtebkdpcgbnlfcaaArena7
namespace Go.AI
open Go
set_option linter.unusedVariables false
set_option linter.unusedSimpArgs false
namespace Arena
theorem states_val (vs : List AV) (h : ArgsOK cfg.P [25, 37] vs) : valω cfg 5 vs = some (.d (.v (.bool true))) := by
  obtain ⟨x0, r, rfl, h0, h⟩ := argsOK_cons h
  obtain ⟨x1, r, rfl, h1, h⟩ := argsOK_cons h
  obtain rfl := argsOK_nil h
  obtain ⟨a, rfl⟩ := a_ar h0
  obtain ⟨l, rfl⟩ := a_acts h1
  exact val_of_ret (states_law a l)
end Arena
end Go.AI
