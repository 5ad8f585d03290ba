/-
  Own work. The ports' laws: the arguments. Bits.
-/
import Derived.Test.YtlkaolahadcjbaaPort8
import Derived.Test.YtlkaolahadcjbaaPortV3
namespace Go.AI
open Go
set_option linter.unusedVariables false
set_option linter.unusedSimpArgs false
namespace Port
theorem bits_val (vs : List AV) (h : ArgsOK cfg.P [22] vs) : valω cfg 5 vs = some (.d (.v (.bool true))) := by
  obtain ⟨x0, r, rfl, h0, h⟩ := argsOK_cons h
  obtain rfl := argsOK_nil h
  obtain ⟨l, rfl⟩ := a_acts h0
  exact val_of_ret (bits_law l)
end Port
end Go.AI
