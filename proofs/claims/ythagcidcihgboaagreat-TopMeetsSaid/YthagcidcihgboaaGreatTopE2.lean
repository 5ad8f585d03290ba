/-
  Own work, printed by gen_nodes.py. What a step does at each of those states: by the kernel.
-/
import Derived.Test.YthagcidcihgboaaGreatTopN
namespace Go.AI
open Go
set_option linter.unusedVariables false
namespace Top

theorem e_t2_39_1 (v : Int) : nxt kp FKt2 FRt2 (t2_39 v) 1 = some (false, t2_39 v) := by kernel_rfl
theorem e_t2_40_0 (v : Int) : nxt kp FKt2 FRt2 (t2_40 v) 0 = some (false, t2_40 v) := by kernel_rfl
theorem e_t2_40_1 (v : Int) : nxt kp FKt2 FRt2 (t2_40 v) 1 = some (false, t2_40 v) := by kernel_rfl
theorem e_t2_41_0 (v : Int) : nxt kp FKt2 FRt2 (t2_41 v) 0 = some (false, t2_41 v) := by kernel_rfl
theorem e_t2_41_1 (v : Int) : nxt kp FKt2 FRt2 (t2_41 v) 1 = some (false, t2_41 v) := by kernel_rfl
theorem e_t2_42_0 (v : Int) : nxt kp FKt2 FRt2 (t2_42 v) 0 = some (false, t2_42 v) := by kernel_rfl
theorem e_t2_42_1 (v : Int) : nxt kp FKt2 FRt2 (t2_42 v) 1 = some (false, t2_42 v) := by kernel_rfl
theorem e_f1_0_0 (v : Int) : nxt kp FKf1 FRf1 (f1_0 v) 0 = some (true, f1_1 v) := by kernel_rfl
theorem e_f1_0_1 (v : Int) : nxt kp FKf1 FRf1 (f1_0 v) 1 = some (false, f1_0 v) := by kernel_rfl
theorem e_f1_1_0 (v : Int) : nxt kp FKf1 FRf1 (f1_1 v) 0 = some (true, f1_2 v) := by kernel_rfl
theorem e_f1_1_1 (v : Int) : nxt kp FKf1 FRf1 (f1_1 v) 1 = some (false, f1_1 v) := by kernel_rfl
theorem e_f1_2_0 (v : Int) : nxt kp FKf1 FRf1 (f1_2 v) 0 = some (true, f1_3 v) := by kernel_rfl
theorem e_f1_2_1 (v : Int) : nxt kp FKf1 FRf1 (f1_2 v) 1 = some (false, f1_2 v) := by kernel_rfl
theorem e_f1_3_0 (v : Int) : nxt kp FKf1 FRf1 (f1_3 v) 0 = some (true, f1_4 v) := by kernel_rfl
theorem e_f1_3_1 (v : Int) : nxt kp FKf1 FRf1 (f1_3 v) 1 = some (false, f1_3 v) := by kernel_rfl
theorem e_f1_4_0 (v : Int) : nxt kp FKf1 FRf1 (f1_4 v) 0 = some (true, f1_5 v) := by kernel_rfl
theorem e_f1_4_1 (v : Int) : nxt kp FKf1 FRf1 (f1_4 v) 1 = some (false, f1_4 v) := by kernel_rfl
theorem e_f1_5_0 (v : Int) : nxt kp FKf1 FRf1 (f1_5 v) 0 = some (true, f1_6 v) := by kernel_rfl
theorem e_f1_5_1 (v : Int) : nxt kp FKf1 FRf1 (f1_5 v) 1 = some (false, f1_5 v) := by kernel_rfl
theorem e_f1_6_0 (v : Int) : nxt kp FKf1 FRf1 (f1_6 v) 0 = some (true, f1_7 v) := by kernel_rfl
theorem e_f1_6_1 (v : Int) : nxt kp FKf1 FRf1 (f1_6 v) 1 = some (false, f1_6 v) := by kernel_rfl
theorem e_f1_7_0 (v : Int) : nxt kp FKf1 FRf1 (f1_7 v) 0 = some (true, f1_8 v) := by kernel_rfl
theorem e_f1_7_1 (v : Int) : nxt kp FKf1 FRf1 (f1_7 v) 1 = some (false, f1_7 v) := by kernel_rfl
theorem e_f1_8_0 (v : Int) : nxt kp FKf1 FRf1 (f1_8 v) 0 = some (true, f1_9 v) := by kernel_rfl
theorem e_f1_8_1 (v : Int) : nxt kp FKf1 FRf1 (f1_8 v) 1 = some (false, f1_8 v) := by kernel_rfl
theorem e_f1_9_0 (v : Int) : nxt kp FKf1 FRf1 (f1_9 v) 0 = some (true, f1_10 v) := by kernel_rfl
theorem e_f1_9_1 (v : Int) : nxt kp FKf1 FRf1 (f1_9 v) 1 = some (false, f1_9 v) := by kernel_rfl
theorem e_f1_10_0 (v : Int) : nxt kp FKf1 FRf1 (f1_10 v) 0 = some (true, f1_11 v) := by kernel_rfl
theorem e_f1_10_1 (v : Int) : nxt kp FKf1 FRf1 (f1_10 v) 1 = some (false, f1_10 v) := by kernel_rfl
theorem e_f1_11_0 (v : Int) : nxt kp FKf1 FRf1 (f1_11 v) 0 = some (true, f1_12 v) := by kernel_rfl
theorem e_f1_11_1 (v : Int) : nxt kp FKf1 FRf1 (f1_11 v) 1 = some (false, f1_11 v) := by kernel_rfl
theorem e_f1_12_0 (v : Int) : nxt kp FKf1 FRf1 (f1_12 v) 0 = some (true, f1_13 v) := by kernel_rfl
theorem e_f1_12_1 (v : Int) : nxt kp FKf1 FRf1 (f1_12 v) 1 = some (false, f1_12 v) := by kernel_rfl
theorem e_f1_13_0 (v : Int) : nxt kp FKf1 FRf1 (f1_13 v) 0 = some (false, f1_13 v) := by kernel_rfl
theorem e_f1_13_1 (v : Int) : nxt kp FKf1 FRf1 (f1_13 v) 1 = some (false, f1_13 v) := by kernel_rfl
theorem e_f2_0_0 (v : Int) : nxt kp FKf2 FRf2 (f2_0 v) 0 = some (false, f2_0 v) := by kernel_rfl
theorem e_f2_0_1 (v : Int) : nxt kp FKf2 FRf2 (f2_0 v) 1 = some (true, f2_1 v) := by kernel_rfl
theorem e_f2_1_0 (v : Int) : nxt kp FKf2 FRf2 (f2_1 v) 0 = some (false, f2_1 v) := by kernel_rfl
theorem e_f2_1_1 (v : Int) : nxt kp FKf2 FRf2 (f2_1 v) 1 = some (true, f2_2 v) := by kernel_rfl
theorem e_f2_2_0 (v : Int) : nxt kp FKf2 FRf2 (f2_2 v) 0 = some (false, f2_2 v) := by kernel_rfl
theorem e_f2_2_1 (v : Int) : nxt kp FKf2 FRf2 (f2_2 v) 1 = some (true, f2_3 v) := by kernel_rfl
theorem e_f2_3_0 (v : Int) : nxt kp FKf2 FRf2 (f2_3 v) 0 = some (false, f2_3 v) := by kernel_rfl
theorem e_f2_3_1 (v : Int) : nxt kp FKf2 FRf2 (f2_3 v) 1 = some (true, f2_4 v) := by kernel_rfl
theorem e_f2_4_0 (v : Int) : nxt kp FKf2 FRf2 (f2_4 v) 0 = some (false, f2_4 v) := by kernel_rfl
theorem e_f2_4_1 (v : Int) : nxt kp FKf2 FRf2 (f2_4 v) 1 = some (true, f2_5 v) := by kernel_rfl
theorem e_f2_5_0 (v : Int) : nxt kp FKf2 FRf2 (f2_5 v) 0 = some (false, f2_5 v) := by kernel_rfl
theorem e_f2_5_1 (v : Int) : nxt kp FKf2 FRf2 (f2_5 v) 1 = some (true, f2_6 v) := by kernel_rfl
theorem e_f2_6_0 (v : Int) : nxt kp FKf2 FRf2 (f2_6 v) 0 = some (false, f2_6 v) := by kernel_rfl
theorem e_f2_6_1 (v : Int) : nxt kp FKf2 FRf2 (f2_6 v) 1 = some (true, f2_7 v) := by kernel_rfl
theorem e_f2_7_0 (v : Int) : nxt kp FKf2 FRf2 (f2_7 v) 0 = some (true, f2_8 v) := by kernel_rfl
theorem e_f2_7_1 (v : Int) : nxt kp FKf2 FRf2 (f2_7 v) 1 = some (true, f2_9 v) := by kernel_rfl
theorem e_f2_8_0 (v : Int) : nxt kp FKf2 FRf2 (f2_8 v) 0 = some (false, f2_8 v) := by kernel_rfl
theorem e_f2_8_1 (v : Int) : nxt kp FKf2 FRf2 (f2_8 v) 1 = some (true, f2_10 v) := by kernel_rfl
theorem e_f2_9_0 (v : Int) : nxt kp FKf2 FRf2 (f2_9 v) 0 = some (true, f2_11 v) := by kernel_rfl
theorem e_f2_9_1 (v : Int) : nxt kp FKf2 FRf2 (f2_9 v) 1 = some (true, f2_12 v) := by kernel_rfl
theorem e_f2_10_0 (v : Int) : nxt kp FKf2 FRf2 (f2_10 v) 0 = some (false, f2_10 v) := by kernel_rfl
theorem e_f2_10_1 (v : Int) : nxt kp FKf2 FRf2 (f2_10 v) 1 = some (true, f2_13 v) := by kernel_rfl
theorem e_f2_11_0 (v : Int) : nxt kp FKf2 FRf2 (f2_11 v) 0 = some (false, f2_11 v) := by kernel_rfl
theorem e_f2_11_1 (v : Int) : nxt kp FKf2 FRf2 (f2_11 v) 1 = some (true, f2_14 v) := by kernel_rfl
theorem e_f2_12_0 (v : Int) : nxt kp FKf2 FRf2 (f2_12 v) 0 = some (true, f2_15 v) := by kernel_rfl
theorem e_f2_12_1 (v : Int) : nxt kp FKf2 FRf2 (f2_12 v) 1 = some (true, f2_16 v) := by kernel_rfl
theorem e_f2_13_0 (v : Int) : nxt kp FKf2 FRf2 (f2_13 v) 0 = some (false, f2_13 v) := by kernel_rfl
theorem e_f2_13_1 (v : Int) : nxt kp FKf2 FRf2 (f2_13 v) 1 = some (true, f2_17 v) := by kernel_rfl
theorem e_f2_14_0 (v : Int) : nxt kp FKf2 FRf2 (f2_14 v) 0 = some (false, f2_14 v) := by kernel_rfl
theorem e_f2_14_1 (v : Int) : nxt kp FKf2 FRf2 (f2_14 v) 1 = some (true, f2_18 v) := by kernel_rfl
theorem e_f2_15_0 (v : Int) : nxt kp FKf2 FRf2 (f2_15 v) 0 = some (false, f2_15 v) := by kernel_rfl
theorem e_f2_15_1 (v : Int) : nxt kp FKf2 FRf2 (f2_15 v) 1 = some (true, f2_19 v) := by kernel_rfl
theorem e_f2_16_0 (v : Int) : nxt kp FKf2 FRf2 (f2_16 v) 0 = some (true, f2_20 v) := by kernel_rfl
theorem e_f2_16_1 (v : Int) : nxt kp FKf2 FRf2 (f2_16 v) 1 = some (true, f2_21 v) := by kernel_rfl
theorem e_f2_17_0 (v : Int) : nxt kp FKf2 FRf2 (f2_17 v) 0 = some (false, f2_17 v) := by kernel_rfl
theorem e_f2_17_1 (v : Int) : nxt kp FKf2 FRf2 (f2_17 v) 1 = some (true, f2_22 v) := by kernel_rfl
theorem e_f2_18_0 (v : Int) : nxt kp FKf2 FRf2 (f2_18 v) 0 = some (false, f2_18 v) := by kernel_rfl
theorem e_f2_18_1 (v : Int) : nxt kp FKf2 FRf2 (f2_18 v) 1 = some (true, f2_23 v) := by kernel_rfl
theorem e_f2_19_0 (v : Int) : nxt kp FKf2 FRf2 (f2_19 v) 0 = some (false, f2_19 v) := by kernel_rfl
theorem e_f2_19_1 (v : Int) : nxt kp FKf2 FRf2 (f2_19 v) 1 = some (true, f2_24 v) := by kernel_rfl
theorem e_f2_20_0 (v : Int) : nxt kp FKf2 FRf2 (f2_20 v) 0 = some (false, f2_20 v) := by kernel_rfl
theorem e_f2_20_1 (v : Int) : nxt kp FKf2 FRf2 (f2_20 v) 1 = some (true, f2_25 v) := by kernel_rfl
theorem e_f2_21_0 (v : Int) : nxt kp FKf2 FRf2 (f2_21 v) 0 = some (true, f2_26 v) := by kernel_rfl
theorem e_f2_21_1 (v : Int) : nxt kp FKf2 FRf2 (f2_21 v) 1 = some (true, f2_27 v) := by kernel_rfl
theorem e_f2_22_0 (v : Int) : nxt kp FKf2 FRf2 (f2_22 v) 0 = some (false, f2_22 v) := by kernel_rfl
theorem e_f2_22_1 (v : Int) : nxt kp FKf2 FRf2 (f2_22 v) 1 = some (true, f2_28 v) := by kernel_rfl
theorem e_f2_23_0 (v : Int) : nxt kp FKf2 FRf2 (f2_23 v) 0 = some (false, f2_23 v) := by kernel_rfl
theorem e_f2_23_1 (v : Int) : nxt kp FKf2 FRf2 (f2_23 v) 1 = some (true, f2_29 v) := by kernel_rfl
theorem e_f2_24_0 (v : Int) : nxt kp FKf2 FRf2 (f2_24 v) 0 = some (false, f2_24 v) := by kernel_rfl
theorem e_f2_24_1 (v : Int) : nxt kp FKf2 FRf2 (f2_24 v) 1 = some (true, f2_30 v) := by kernel_rfl
theorem e_f2_25_0 (v : Int) : nxt kp FKf2 FRf2 (f2_25 v) 0 = some (false, f2_25 v) := by kernel_rfl
theorem e_f2_25_1 (v : Int) : nxt kp FKf2 FRf2 (f2_25 v) 1 = some (true, f2_31 v) := by kernel_rfl
theorem e_f2_26_0 (v : Int) : nxt kp FKf2 FRf2 (f2_26 v) 0 = some (false, f2_26 v) := by kernel_rfl
theorem e_f2_26_1 (v : Int) : nxt kp FKf2 FRf2 (f2_26 v) 1 = some (true, f2_32 v) := by kernel_rfl
theorem e_f2_27_0 (v : Int) : nxt kp FKf2 FRf2 (f2_27 v) 0 = some (true, f2_33 v) := by kernel_rfl
theorem e_f2_27_1 (v : Int) : nxt kp FKf2 FRf2 (f2_27 v) 1 = some (false, f2_27 v) := by kernel_rfl
theorem e_f2_28_0 (v : Int) : nxt kp FKf2 FRf2 (f2_28 v) 0 = some (false, f2_28 v) := by kernel_rfl
theorem e_f2_28_1 (v : Int) : nxt kp FKf2 FRf2 (f2_28 v) 1 = some (false, f2_28 v) := by kernel_rfl
theorem e_f2_29_0 (v : Int) : nxt kp FKf2 FRf2 (f2_29 v) 0 = some (false, f2_29 v) := by kernel_rfl
theorem e_f2_29_1 (v : Int) : nxt kp FKf2 FRf2 (f2_29 v) 1 = some (false, f2_29 v) := by kernel_rfl
theorem e_f2_30_0 (v : Int) : nxt kp FKf2 FRf2 (f2_30 v) 0 = some (false, f2_30 v) := by kernel_rfl
theorem e_f2_30_1 (v : Int) : nxt kp FKf2 FRf2 (f2_30 v) 1 = some (false, f2_30 v) := by kernel_rfl
theorem e_f2_31_0 (v : Int) : nxt kp FKf2 FRf2 (f2_31 v) 0 = some (false, f2_31 v) := by kernel_rfl
theorem e_f2_31_1 (v : Int) : nxt kp FKf2 FRf2 (f2_31 v) 1 = some (false, f2_31 v) := by kernel_rfl
theorem e_f2_32_0 (v : Int) : nxt kp FKf2 FRf2 (f2_32 v) 0 = some (false, f2_32 v) := by kernel_rfl
theorem e_f2_32_1 (v : Int) : nxt kp FKf2 FRf2 (f2_32 v) 1 = some (false, f2_32 v) := by kernel_rfl
theorem e_f2_33_0 (v : Int) : nxt kp FKf2 FRf2 (f2_33 v) 0 = some (false, f2_33 v) := by kernel_rfl
theorem e_f2_33_1 (v : Int) : nxt kp FKf2 FRf2 (f2_33 v) 1 = some (false, f2_33 v) := by kernel_rfl
end Top
end Go.AI
