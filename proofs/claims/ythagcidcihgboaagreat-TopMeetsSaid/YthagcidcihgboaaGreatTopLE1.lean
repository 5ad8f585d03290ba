/-
  Own work, printed by gen_live.py. Rounds of live(), by the kernel.
-/
import Derived.Test.YthagcidcihgboaaGreatTopLN
namespace Go.AI
open Go
set_option linter.unusedVariables false
namespace Top

theorem rl_0 : rnds kpl FKl FRl 3 live_0 = some live_3 := by kernel_rfl
theorem rl_3 : rnds kpl FKl FRl 3 live_3 = some live_6 := by kernel_rfl
theorem rl_6 : rnds kpl FKl FRl 3 live_6 = some live_9 := by kernel_rfl
theorem rl_9 : rnds kpl FKl FRl 3 live_9 = some live_12 := by kernel_rfl
theorem rl_12 : rnds kpl FKl FRl 3 live_12 = some live_15 := by kernel_rfl
theorem rl_15 : rnds kpl FKl FRl 3 live_15 = some live_18 := by kernel_rfl
theorem rl_18 : rnds kpl FKl FRl 6 live_18 = some live_24 := by kernel_rfl
theorem rl_24 : rnds kpl FKl FRl 6 live_24 = some live_30 := by kernel_rfl
theorem rl_30 : rnds kpl FKl FRl 3 live_30 = some live_33 := by kernel_rfl
theorem rl_33 : rnds kpl FKl FRl 3 live_33 = some live_36 := by kernel_rfl
theorem rl_36 : rnds kpl FKl FRl 6 live_36 = some live_42 := by kernel_rfl
theorem rl_42 : rnds kpl FKl FRl 6 live_42 = some live_48 := by kernel_rfl
theorem rl_48 : rnds kpl FKl FRl 6 live_48 = some live_54 := by kernel_rfl
end Top
end Go.AI
