/-
  Own work, printed by gen_nodes.py. What a step does at each of those states: by the kernel.
-/
import Derived.Test.YthagcidcihgboaaGreatTopN
namespace Go.AI
open Go
set_option linter.unusedVariables false
namespace Top

theorem e_t1_0_0 (v : Int) : nxt kp FKt1 FRt1 (t1_0 v) 0 = some (false, t1_0 v) := by kernel_rfl
theorem e_t1_0_1 (v : Int) : nxt kp FKt1 FRt1 (t1_0 v) 1 = some (true, t1_1 v) := by kernel_rfl
theorem e_t1_1_0 (v : Int) : nxt kp FKt1 FRt1 (t1_1 v) 0 = some (false, t1_1 v) := by kernel_rfl
theorem e_t1_1_1 (v : Int) : nxt kp FKt1 FRt1 (t1_1 v) 1 = some (true, t1_2 v) := by kernel_rfl
theorem e_t1_2_0 (v : Int) : nxt kp FKt1 FRt1 (t1_2 v) 0 = some (false, t1_2 v) := by kernel_rfl
theorem e_t1_2_1 (v : Int) : nxt kp FKt1 FRt1 (t1_2 v) 1 = some (true, t1_3 v) := by kernel_rfl
theorem e_t1_3_0 (v : Int) : nxt kp FKt1 FRt1 (t1_3 v) 0 = some (false, t1_3 v) := by kernel_rfl
theorem e_t1_3_1 (v : Int) : nxt kp FKt1 FRt1 (t1_3 v) 1 = some (true, t1_4 v) := by kernel_rfl
theorem e_t1_4_0 (v : Int) : nxt kp FKt1 FRt1 (t1_4 v) 0 = some (false, t1_4 v) := by kernel_rfl
theorem e_t1_4_1 (v : Int) : nxt kp FKt1 FRt1 (t1_4 v) 1 = some (true, t1_5 v) := by kernel_rfl
theorem e_t1_5_0 (v : Int) : nxt kp FKt1 FRt1 (t1_5 v) 0 = some (false, t1_5 v) := by kernel_rfl
theorem e_t1_5_1 (v : Int) : nxt kp FKt1 FRt1 (t1_5 v) 1 = some (true, t1_6 v) := by kernel_rfl
theorem e_t1_6_0 (v : Int) : nxt kp FKt1 FRt1 (t1_6 v) 0 = some (false, t1_6 v) := by kernel_rfl
theorem e_t1_6_1 (v : Int) : nxt kp FKt1 FRt1 (t1_6 v) 1 = some (true, t1_7 v) := by kernel_rfl
theorem e_t1_7_0 (v : Int) : nxt kp FKt1 FRt1 (t1_7 v) 0 = some (false, t1_7 v) := by kernel_rfl
theorem e_t1_7_1 (v : Int) : nxt kp FKt1 FRt1 (t1_7 v) 1 = some (true, t1_8 v) := by kernel_rfl
theorem e_t1_8_0 (v : Int) : nxt kp FKt1 FRt1 (t1_8 v) 0 = some (false, t1_8 v) := by kernel_rfl
theorem e_t1_8_1 (v : Int) : nxt kp FKt1 FRt1 (t1_8 v) 1 = some (true, t1_9 v) := by kernel_rfl
theorem e_t1_9_0 (v : Int) : nxt kp FKt1 FRt1 (t1_9 v) 0 = some (false, t1_9 v) := by kernel_rfl
theorem e_t1_9_1 (v : Int) : nxt kp FKt1 FRt1 (t1_9 v) 1 = some (true, t1_10 v) := by kernel_rfl
theorem e_t1_10_0 (v : Int) : nxt kp FKt1 FRt1 (t1_10 v) 0 = some (false, t1_10 v) := by kernel_rfl
theorem e_t1_10_1 (v : Int) : nxt kp FKt1 FRt1 (t1_10 v) 1 = some (true, t1_11 v) := by kernel_rfl
theorem e_t1_11_0 (v : Int) : nxt kp FKt1 FRt1 (t1_11 v) 0 = some (false, t1_11 v) := by kernel_rfl
theorem e_t1_11_1 (v : Int) : nxt kp FKt1 FRt1 (t1_11 v) 1 = some (false, t1_11 v) := by kernel_rfl
theorem e_t2_0_0 (v : Int) : nxt kp FKt2 FRt2 (t2_0 v) 0 = some (true, t2_1 v) := by kernel_rfl
theorem e_t2_0_1 (v : Int) : nxt kp FKt2 FRt2 (t2_0 v) 1 = some (false, t2_0 v) := by kernel_rfl
theorem e_t2_1_0 (v : Int) : nxt kp FKt2 FRt2 (t2_1 v) 0 = some (true, t2_2 v) := by kernel_rfl
theorem e_t2_1_1 (v : Int) : nxt kp FKt2 FRt2 (t2_1 v) 1 = some (false, t2_1 v) := by kernel_rfl
theorem e_t2_2_0 (v : Int) : nxt kp FKt2 FRt2 (t2_2 v) 0 = some (true, t2_3 v) := by kernel_rfl
theorem e_t2_2_1 (v : Int) : nxt kp FKt2 FRt2 (t2_2 v) 1 = some (false, t2_2 v) := by kernel_rfl
theorem e_t2_3_0 (v : Int) : nxt kp FKt2 FRt2 (t2_3 v) 0 = some (true, t2_4 v) := by kernel_rfl
theorem e_t2_3_1 (v : Int) : nxt kp FKt2 FRt2 (t2_3 v) 1 = some (false, t2_3 v) := by kernel_rfl
theorem e_t2_4_0 (v : Int) : nxt kp FKt2 FRt2 (t2_4 v) 0 = some (true, t2_5 v) := by kernel_rfl
theorem e_t2_4_1 (v : Int) : nxt kp FKt2 FRt2 (t2_4 v) 1 = some (false, t2_4 v) := by kernel_rfl
theorem e_t2_5_0 (v : Int) : nxt kp FKt2 FRt2 (t2_5 v) 0 = some (true, t2_6 v) := by kernel_rfl
theorem e_t2_5_1 (v : Int) : nxt kp FKt2 FRt2 (t2_5 v) 1 = some (false, t2_5 v) := by kernel_rfl
theorem e_t2_6_0 (v : Int) : nxt kp FKt2 FRt2 (t2_6 v) 0 = some (true, t2_7 v) := by kernel_rfl
theorem e_t2_6_1 (v : Int) : nxt kp FKt2 FRt2 (t2_6 v) 1 = some (false, t2_6 v) := by kernel_rfl
theorem e_t2_7_0 (v : Int) : nxt kp FKt2 FRt2 (t2_7 v) 0 = some (true, t2_8 v) := by kernel_rfl
theorem e_t2_7_1 (v : Int) : nxt kp FKt2 FRt2 (t2_7 v) 1 = some (false, t2_7 v) := by kernel_rfl
theorem e_t2_8_0 (v : Int) : nxt kp FKt2 FRt2 (t2_8 v) 0 = some (true, t2_9 v) := by kernel_rfl
theorem e_t2_8_1 (v : Int) : nxt kp FKt2 FRt2 (t2_8 v) 1 = some (true, t2_10 v) := by kernel_rfl
theorem e_t2_9_0 (v : Int) : nxt kp FKt2 FRt2 (t2_9 v) 0 = some (true, t2_11 v) := by kernel_rfl
theorem e_t2_9_1 (v : Int) : nxt kp FKt2 FRt2 (t2_9 v) 1 = some (true, t2_12 v) := by kernel_rfl
theorem e_t2_10_0 (v : Int) : nxt kp FKt2 FRt2 (t2_10 v) 0 = some (true, t2_13 v) := by kernel_rfl
theorem e_t2_10_1 (v : Int) : nxt kp FKt2 FRt2 (t2_10 v) 1 = some (false, t2_10 v) := by kernel_rfl
theorem e_t2_11_0 (v : Int) : nxt kp FKt2 FRt2 (t2_11 v) 0 = some (true, t2_14 v) := by kernel_rfl
theorem e_t2_11_1 (v : Int) : nxt kp FKt2 FRt2 (t2_11 v) 1 = some (true, t2_15 v) := by kernel_rfl
theorem e_t2_12_0 (v : Int) : nxt kp FKt2 FRt2 (t2_12 v) 0 = some (true, t2_16 v) := by kernel_rfl
theorem e_t2_12_1 (v : Int) : nxt kp FKt2 FRt2 (t2_12 v) 1 = some (false, t2_12 v) := by kernel_rfl
theorem e_t2_13_0 (v : Int) : nxt kp FKt2 FRt2 (t2_13 v) 0 = some (true, t2_17 v) := by kernel_rfl
theorem e_t2_13_1 (v : Int) : nxt kp FKt2 FRt2 (t2_13 v) 1 = some (false, t2_13 v) := by kernel_rfl
theorem e_t2_14_0 (v : Int) : nxt kp FKt2 FRt2 (t2_14 v) 0 = some (true, t2_18 v) := by kernel_rfl
theorem e_t2_14_1 (v : Int) : nxt kp FKt2 FRt2 (t2_14 v) 1 = some (true, t2_19 v) := by kernel_rfl
theorem e_t2_15_0 (v : Int) : nxt kp FKt2 FRt2 (t2_15 v) 0 = some (true, t2_20 v) := by kernel_rfl
theorem e_t2_15_1 (v : Int) : nxt kp FKt2 FRt2 (t2_15 v) 1 = some (false, t2_15 v) := by kernel_rfl
theorem e_t2_16_0 (v : Int) : nxt kp FKt2 FRt2 (t2_16 v) 0 = some (true, t2_21 v) := by kernel_rfl
theorem e_t2_16_1 (v : Int) : nxt kp FKt2 FRt2 (t2_16 v) 1 = some (false, t2_16 v) := by kernel_rfl
theorem e_t2_17_0 (v : Int) : nxt kp FKt2 FRt2 (t2_17 v) 0 = some (true, t2_22 v) := by kernel_rfl
theorem e_t2_17_1 (v : Int) : nxt kp FKt2 FRt2 (t2_17 v) 1 = some (false, t2_17 v) := by kernel_rfl
theorem e_t2_18_0 (v : Int) : nxt kp FKt2 FRt2 (t2_18 v) 0 = some (true, t2_23 v) := by kernel_rfl
theorem e_t2_18_1 (v : Int) : nxt kp FKt2 FRt2 (t2_18 v) 1 = some (true, t2_24 v) := by kernel_rfl
theorem e_t2_19_0 (v : Int) : nxt kp FKt2 FRt2 (t2_19 v) 0 = some (true, t2_25 v) := by kernel_rfl
theorem e_t2_19_1 (v : Int) : nxt kp FKt2 FRt2 (t2_19 v) 1 = some (false, t2_19 v) := by kernel_rfl
theorem e_t2_20_0 (v : Int) : nxt kp FKt2 FRt2 (t2_20 v) 0 = some (true, t2_26 v) := by kernel_rfl
theorem e_t2_20_1 (v : Int) : nxt kp FKt2 FRt2 (t2_20 v) 1 = some (false, t2_20 v) := by kernel_rfl
theorem e_t2_21_0 (v : Int) : nxt kp FKt2 FRt2 (t2_21 v) 0 = some (true, t2_27 v) := by kernel_rfl
theorem e_t2_21_1 (v : Int) : nxt kp FKt2 FRt2 (t2_21 v) 1 = some (false, t2_21 v) := by kernel_rfl
theorem e_t2_22_0 (v : Int) : nxt kp FKt2 FRt2 (t2_22 v) 0 = some (true, t2_28 v) := by kernel_rfl
theorem e_t2_22_1 (v : Int) : nxt kp FKt2 FRt2 (t2_22 v) 1 = some (false, t2_22 v) := by kernel_rfl
theorem e_t2_23_0 (v : Int) : nxt kp FKt2 FRt2 (t2_23 v) 0 = some (true, t2_29 v) := by kernel_rfl
theorem e_t2_23_1 (v : Int) : nxt kp FKt2 FRt2 (t2_23 v) 1 = some (true, t2_30 v) := by kernel_rfl
theorem e_t2_24_0 (v : Int) : nxt kp FKt2 FRt2 (t2_24 v) 0 = some (true, t2_31 v) := by kernel_rfl
theorem e_t2_24_1 (v : Int) : nxt kp FKt2 FRt2 (t2_24 v) 1 = some (false, t2_24 v) := by kernel_rfl
theorem e_t2_25_0 (v : Int) : nxt kp FKt2 FRt2 (t2_25 v) 0 = some (true, t2_32 v) := by kernel_rfl
theorem e_t2_25_1 (v : Int) : nxt kp FKt2 FRt2 (t2_25 v) 1 = some (false, t2_25 v) := by kernel_rfl
theorem e_t2_26_0 (v : Int) : nxt kp FKt2 FRt2 (t2_26 v) 0 = some (true, t2_33 v) := by kernel_rfl
theorem e_t2_26_1 (v : Int) : nxt kp FKt2 FRt2 (t2_26 v) 1 = some (false, t2_26 v) := by kernel_rfl
theorem e_t2_27_0 (v : Int) : nxt kp FKt2 FRt2 (t2_27 v) 0 = some (true, t2_34 v) := by kernel_rfl
theorem e_t2_27_1 (v : Int) : nxt kp FKt2 FRt2 (t2_27 v) 1 = some (false, t2_27 v) := by kernel_rfl
theorem e_t2_28_0 (v : Int) : nxt kp FKt2 FRt2 (t2_28 v) 0 = some (true, t2_35 v) := by kernel_rfl
theorem e_t2_28_1 (v : Int) : nxt kp FKt2 FRt2 (t2_28 v) 1 = some (false, t2_28 v) := by kernel_rfl
theorem e_t2_29_0 (v : Int) : nxt kp FKt2 FRt2 (t2_29 v) 0 = some (false, t2_29 v) := by kernel_rfl
theorem e_t2_29_1 (v : Int) : nxt kp FKt2 FRt2 (t2_29 v) 1 = some (true, t2_36 v) := by kernel_rfl
theorem e_t2_30_0 (v : Int) : nxt kp FKt2 FRt2 (t2_30 v) 0 = some (true, t2_37 v) := by kernel_rfl
theorem e_t2_30_1 (v : Int) : nxt kp FKt2 FRt2 (t2_30 v) 1 = some (false, t2_30 v) := by kernel_rfl
theorem e_t2_31_0 (v : Int) : nxt kp FKt2 FRt2 (t2_31 v) 0 = some (true, t2_38 v) := by kernel_rfl
theorem e_t2_31_1 (v : Int) : nxt kp FKt2 FRt2 (t2_31 v) 1 = some (false, t2_31 v) := by kernel_rfl
theorem e_t2_32_0 (v : Int) : nxt kp FKt2 FRt2 (t2_32 v) 0 = some (true, t2_39 v) := by kernel_rfl
theorem e_t2_32_1 (v : Int) : nxt kp FKt2 FRt2 (t2_32 v) 1 = some (false, t2_32 v) := by kernel_rfl
theorem e_t2_33_0 (v : Int) : nxt kp FKt2 FRt2 (t2_33 v) 0 = some (true, t2_40 v) := by kernel_rfl
theorem e_t2_33_1 (v : Int) : nxt kp FKt2 FRt2 (t2_33 v) 1 = some (false, t2_33 v) := by kernel_rfl
theorem e_t2_34_0 (v : Int) : nxt kp FKt2 FRt2 (t2_34 v) 0 = some (true, t2_41 v) := by kernel_rfl
theorem e_t2_34_1 (v : Int) : nxt kp FKt2 FRt2 (t2_34 v) 1 = some (false, t2_34 v) := by kernel_rfl
theorem e_t2_35_0 (v : Int) : nxt kp FKt2 FRt2 (t2_35 v) 0 = some (true, t2_42 v) := by kernel_rfl
theorem e_t2_35_1 (v : Int) : nxt kp FKt2 FRt2 (t2_35 v) 1 = some (false, t2_35 v) := by kernel_rfl
theorem e_t2_36_0 (v : Int) : nxt kp FKt2 FRt2 (t2_36 v) 0 = some (false, t2_36 v) := by kernel_rfl
theorem e_t2_36_1 (v : Int) : nxt kp FKt2 FRt2 (t2_36 v) 1 = some (false, t2_36 v) := by kernel_rfl
theorem e_t2_37_0 (v : Int) : nxt kp FKt2 FRt2 (t2_37 v) 0 = some (false, t2_37 v) := by kernel_rfl
theorem e_t2_37_1 (v : Int) : nxt kp FKt2 FRt2 (t2_37 v) 1 = some (false, t2_37 v) := by kernel_rfl
theorem e_t2_38_0 (v : Int) : nxt kp FKt2 FRt2 (t2_38 v) 0 = some (false, t2_38 v) := by kernel_rfl
theorem e_t2_38_1 (v : Int) : nxt kp FKt2 FRt2 (t2_38 v) 1 = some (false, t2_38 v) := by kernel_rfl
theorem e_t2_39_0 (v : Int) : nxt kp FKt2 FRt2 (t2_39 v) 0 = some (false, t2_39 v) := by kernel_rfl
end Top
end Go.AI
