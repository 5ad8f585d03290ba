/-
  Own work, printed by gen_live.py. Rounds of live(), by the kernel.
-/
import Derived.Test.YthagcidcihgboaaGreatTopLN
namespace Go.AI
open Go
set_option linter.unusedVariables false
namespace Top

theorem rl_54 : rnds kpl FKl FRl 6 live_54 = some live_60 := by kernel_rfl
theorem rl_60 : rnds kpl FKl FRl 6 live_60 = some live_66 := by kernel_rfl
theorem rl_66 : rnds kpl FKl FRl 6 live_66 = some live_72 := by kernel_rfl
theorem rl_72 : rnds kpl FKl FRl 6 live_72 = some live_78 := by kernel_rfl
theorem rl_78 : rnds kpl FKl FRl 6 live_78 = some live_84 := by kernel_rfl
theorem rl_84 : rnds kpl FKl FRl 3 live_84 = some live_87 := by kernel_rfl
theorem rl_87 : rnds kpl FKl FRl 3 live_87 = some live_90 := by kernel_rfl
theorem rl_90 : rnds kpl FKl FRl 6 live_90 = some live_96 := by kernel_rfl
theorem rl_96 : rnds kpl FKl FRl 6 live_96 = some live_102 := by kernel_rfl
theorem rl_102 : rnds kpl FKl FRl 6 live_102 = some live_108 := by kernel_rfl
theorem rl_108 : rnds kpl FKl FRl 6 live_108 = some live_114 := by kernel_rfl
theorem rl_114 : rnds kpl FKl FRl 2 live_114 = some live_116 := by kernel_rfl
theorem rl_end0 : nxt kpl FKl FRl live_116 0 = some (false, live_116) := by kernel_rfl
theorem rl_end1 : nxt kpl FKl FRl live_116 1 = some (false, live_116) := by kernel_rfl
end Top
end Go.AI
