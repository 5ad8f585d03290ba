/-
  Own work. The seat's configuration is sound.
-/
import Derived.Test.YtebkdpcgbnlfcaaCfg
import Derived.Test.YtebkdpcgbnlfcaaAiModes
import Derived.KernelRfl
namespace Go.AI
open Go
theorem readyM : ModesOK cfg := modes_ok (l := modes) rfl (by kernel_rfl) (by kernel_rfl)
theorem readyP : ProgOK cfg := prog_ok (by kernel_rfl) (by kernel_rfl)
end Go.AI
