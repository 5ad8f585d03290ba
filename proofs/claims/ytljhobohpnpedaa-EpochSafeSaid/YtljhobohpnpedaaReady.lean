/-
  Own work. The seat's configuration is sound.
-/
import Derived.Test.YtljhobohpnpedaaCfg
import Derived.Test.YtljhobohpnpedaaAiModes
import Derived.KernelRfl
namespace Go.AI
open Go
theorem readyM : ModesOK cfg := modes_ok (l := modes) rfl (by kernel_rfl) (by kernel_rfl) (by kernel_rfl) rfl (by kernel_rfl)
theorem readyP : ProgOK cfg := prog_ok (by kernel_rfl) (by kernel_rfl)
end Go.AI
