/-
  Own work. The cells' laws: the arguments. Runs, Locks, Laid.
-/
import Derived.Test.YtfgaoimljkibgaaCellsV
import Derived.Test.YtfgaoimljkibgaaCells6
namespace Go.AI
open Go
set_option linter.unusedVariables false
set_option linter.unusedSimpArgs false
namespace Cells
theorem runs_val (vs : List AV) (h : ArgsOK cfg.P [3, 32] vs) : valω cfg 8 vs = some (.d (.v (.bool true))) := by
  obtain ⟨a, r, rfl, h1, h⟩ := argsOK_cons h
  obtain ⟨b, r, rfl, h2, h⟩ := argsOK_cons h
  obtain rfl := argsOK_nil h
  obtain ⟨n, rfl, _⟩ := a_int h1
  obtain ⟨p, rfl⟩ := a_ops h2
  exact val_of_ret (runs_law n p)
theorem locks_val (vs : List AV) (h : ArgsOK cfg.P [32] vs) : valω cfg 4 vs = some (.d (.v (.bool true))) := by
  obtain ⟨b, r, rfl, h2, h⟩ := argsOK_cons h
  obtain rfl := argsOK_nil h
  obtain ⟨p, rfl⟩ := a_ops h2
  exact val_of_ret (locks_law p)
theorem laid_val (vs : List AV) (h : ArgsOK cfg.P [22, 22, 32, 3] vs) : valω cfg 10 vs = some (.d (.v (.bool true))) := by
  obtain ⟨a, r, rfl, h1, h⟩ := argsOK_cons h
  obtain ⟨b, r, rfl, h2, h⟩ := argsOK_cons h
  obtain ⟨c, r, rfl, h3, h⟩ := argsOK_cons h
  obtain ⟨d, r, rfl, h4, h⟩ := argsOK_cons h
  obtain rfl := argsOK_nil h
  obtain ⟨l, rfl, _⟩ := a_ints h1
  obtain ⟨m, rfl, _⟩ := a_ints h2
  obtain ⟨p, rfl⟩ := a_ops h3
  obtain ⟨n, rfl, _⟩ := a_int h4
  exact val_of_ret (laid_law l m p n)
end Cells
end Go.AI
