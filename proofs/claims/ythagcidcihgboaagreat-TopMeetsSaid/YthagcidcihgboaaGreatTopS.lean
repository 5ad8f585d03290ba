/-
  Own work, printed by gen_nodes.py. Every pick leads from a state to a state; where rounds ends.
-/
import Derived.Test.YthagcidcihgboaaGreatTop4
import Derived.Test.YthagcidcihgboaaGreatTopE1
import Derived.Test.YthagcidcihgboaaGreatTopE2
namespace Go.AI
open Go
set_option linter.unusedVariables false
namespace Top
theorem top_t1 : boxTop FKt1 = FRt1 := by kernel_rfl
theorem lt_t1 : ∀ x, FKt1.contains x = true → x < FRt1 := fun x hx => by
  rw [← top_t1]; exact boxTop_lt (List.elem_iff.1 hx)
theorem fl_t1_0 (v : Int) : flatS FKt1 FRt1 (t1_0 v) = true := by kernel_rfl
theorem co_t1_0 (v : Int) : cores2 FKt1 (t1_0 v) 531 = true := by kernel_rfl
theorem fl_t1_1 (v : Int) : flatS FKt1 FRt1 (t1_1 v) = true := by kernel_rfl
theorem co_t1_1 (v : Int) : cores2 FKt1 (t1_1 v) 531 = true := by kernel_rfl
theorem fl_t1_2 (v : Int) : flatS FKt1 FRt1 (t1_2 v) = true := by kernel_rfl
theorem co_t1_2 (v : Int) : cores2 FKt1 (t1_2 v) 531 = true := by kernel_rfl
theorem fl_t1_3 (v : Int) : flatS FKt1 FRt1 (t1_3 v) = true := by kernel_rfl
theorem co_t1_3 (v : Int) : cores2 FKt1 (t1_3 v) 531 = true := by kernel_rfl
theorem fl_t1_4 (v : Int) : flatS FKt1 FRt1 (t1_4 v) = true := by kernel_rfl
theorem co_t1_4 (v : Int) : cores2 FKt1 (t1_4 v) 531 = true := by kernel_rfl
theorem fl_t1_5 (v : Int) : flatS FKt1 FRt1 (t1_5 v) = true := by kernel_rfl
theorem co_t1_5 (v : Int) : cores2 FKt1 (t1_5 v) 531 = true := by kernel_rfl
theorem fl_t1_6 (v : Int) : flatS FKt1 FRt1 (t1_6 v) = true := by kernel_rfl
theorem co_t1_6 (v : Int) : cores2 FKt1 (t1_6 v) 531 = true := by kernel_rfl
theorem fl_t1_7 (v : Int) : flatS FKt1 FRt1 (t1_7 v) = true := by kernel_rfl
theorem co_t1_7 (v : Int) : cores2 FKt1 (t1_7 v) 531 = true := by kernel_rfl
theorem fl_t1_8 (v : Int) : flatS FKt1 FRt1 (t1_8 v) = true := by kernel_rfl
theorem co_t1_8 (v : Int) : cores2 FKt1 (t1_8 v) 531 = true := by kernel_rfl
theorem fl_t1_9 (v : Int) : flatS FKt1 FRt1 (t1_9 v) = true := by kernel_rfl
theorem co_t1_9 (v : Int) : cores2 FKt1 (t1_9 v) 531 = true := by kernel_rfl
theorem fl_t1_10 (v : Int) : flatS FKt1 FRt1 (t1_10 v) = true := by kernel_rfl
theorem co_t1_10 (v : Int) : cores2 FKt1 (t1_10 v) 531 = true := by kernel_rfl
theorem fl_t1_11 (v : Int) : flatS FKt1 FRt1 (t1_11 v) = true := by kernel_rfl
theorem co_t1_11 (v : Int) : cores2 FKt1 (t1_11 v) 531 = true := by kernel_rfl
def all_t1 (v : Int) : List St := [t1_0 v, t1_1 v, t1_2 v, t1_3 v, t1_4 v, t1_5 v, t1_6 v, t1_7 v, t1_8 v, t1_9 v, t1_10 v, t1_11 v]
theorem in_t1_0 (v : Int) : t1_0 v ∈ all_t1 v := List.mem_of_getElem? (i := 0) (by kernel_rfl)
theorem in_t1_1 (v : Int) : t1_1 v ∈ all_t1 v := List.mem_of_getElem? (i := 1) (by kernel_rfl)
theorem in_t1_2 (v : Int) : t1_2 v ∈ all_t1 v := List.mem_of_getElem? (i := 2) (by kernel_rfl)
theorem in_t1_3 (v : Int) : t1_3 v ∈ all_t1 v := List.mem_of_getElem? (i := 3) (by kernel_rfl)
theorem in_t1_4 (v : Int) : t1_4 v ∈ all_t1 v := List.mem_of_getElem? (i := 4) (by kernel_rfl)
theorem in_t1_5 (v : Int) : t1_5 v ∈ all_t1 v := List.mem_of_getElem? (i := 5) (by kernel_rfl)
theorem in_t1_6 (v : Int) : t1_6 v ∈ all_t1 v := List.mem_of_getElem? (i := 6) (by kernel_rfl)
theorem in_t1_7 (v : Int) : t1_7 v ∈ all_t1 v := List.mem_of_getElem? (i := 7) (by kernel_rfl)
theorem in_t1_8 (v : Int) : t1_8 v ∈ all_t1 v := List.mem_of_getElem? (i := 8) (by kernel_rfl)
theorem in_t1_9 (v : Int) : t1_9 v ∈ all_t1 v := List.mem_of_getElem? (i := 9) (by kernel_rfl)
theorem in_t1_10 (v : Int) : t1_10 v ∈ all_t1 v := List.mem_of_getElem? (i := 10) (by kernel_rfl)
theorem in_t1_11 (v : Int) : t1_11 v ∈ all_t1 v := List.mem_of_getElem? (i := 11) (by kernel_rfl)
theorem closed_t1 (v : Int) : Closed kp FKt1 FRt1 fun s => s ∈ all_t1 v where
  ptr := ⟨531, 0, 0, 0, rfl⟩
  low := by kernel_rfl
  go := by
    intro s hs
    unfold all_t1 at hs
    rcases List.mem_cons.1 hs with rfl | hs
    · exact goes_all lt_t1 (e_t1_0_0 v) (e_t1_0_1 v) (co_t1_0 v) (fl_t1_0 v) (in_t1_0 v) (in_t1_0 v) (in_t1_1 v)
    rcases List.mem_cons.1 hs with rfl | hs
    · exact goes_all lt_t1 (e_t1_1_0 v) (e_t1_1_1 v) (co_t1_1 v) (fl_t1_1 v) (in_t1_1 v) (in_t1_1 v) (in_t1_2 v)
    rcases List.mem_cons.1 hs with rfl | hs
    · exact goes_all lt_t1 (e_t1_2_0 v) (e_t1_2_1 v) (co_t1_2 v) (fl_t1_2 v) (in_t1_2 v) (in_t1_2 v) (in_t1_3 v)
    rcases List.mem_cons.1 hs with rfl | hs
    · exact goes_all lt_t1 (e_t1_3_0 v) (e_t1_3_1 v) (co_t1_3 v) (fl_t1_3 v) (in_t1_3 v) (in_t1_3 v) (in_t1_4 v)
    rcases List.mem_cons.1 hs with rfl | hs
    · exact goes_all lt_t1 (e_t1_4_0 v) (e_t1_4_1 v) (co_t1_4 v) (fl_t1_4 v) (in_t1_4 v) (in_t1_4 v) (in_t1_5 v)
    rcases List.mem_cons.1 hs with rfl | hs
    · exact goes_all lt_t1 (e_t1_5_0 v) (e_t1_5_1 v) (co_t1_5 v) (fl_t1_5 v) (in_t1_5 v) (in_t1_5 v) (in_t1_6 v)
    rcases List.mem_cons.1 hs with rfl | hs
    · exact goes_all lt_t1 (e_t1_6_0 v) (e_t1_6_1 v) (co_t1_6 v) (fl_t1_6 v) (in_t1_6 v) (in_t1_6 v) (in_t1_7 v)
    rcases List.mem_cons.1 hs with rfl | hs
    · exact goes_all lt_t1 (e_t1_7_0 v) (e_t1_7_1 v) (co_t1_7 v) (fl_t1_7 v) (in_t1_7 v) (in_t1_7 v) (in_t1_8 v)
    rcases List.mem_cons.1 hs with rfl | hs
    · exact goes_all lt_t1 (e_t1_8_0 v) (e_t1_8_1 v) (co_t1_8 v) (fl_t1_8 v) (in_t1_8 v) (in_t1_8 v) (in_t1_9 v)
    rcases List.mem_cons.1 hs with rfl | hs
    · exact goes_all lt_t1 (e_t1_9_0 v) (e_t1_9_1 v) (co_t1_9 v) (fl_t1_9 v) (in_t1_9 v) (in_t1_9 v) (in_t1_10 v)
    rcases List.mem_cons.1 hs with rfl | hs
    · exact goes_all lt_t1 (e_t1_10_0 v) (e_t1_10_1 v) (co_t1_10 v) (fl_t1_10 v) (in_t1_10 v) (in_t1_10 v) (in_t1_11 v)
    rcases List.mem_cons.1 hs with rfl | hs
    · exact goes_all lt_t1 (e_t1_11_0 v) (e_t1_11_1 v) (co_t1_11 v) (fl_t1_11 v) (in_t1_11 v) (in_t1_11 v) (in_t1_11 v)
    exact absurd hs List.not_mem_nil
theorem ro_t1_11 (v : Int) : Rounds kp FKt1 FRt1 (t1_11 v) 0 (t1_11 v) := .stop (nxt_goes (e_t1_11_0 v) lt_t1) (nxt_goes (e_t1_11_1 v) lt_t1)
theorem ro_t1_10 (v : Int) : Rounds kp FKt1 FRt1 (t1_10 v) 1 (t1_11 v) := .more (nxt_goes (e_t1_10_0 v) lt_t1) (nxt_goes (e_t1_10_1 v) lt_t1) rfl (ro_t1_11 v)
theorem ro_t1_9 (v : Int) : Rounds kp FKt1 FRt1 (t1_9 v) 2 (t1_11 v) := .more (nxt_goes (e_t1_9_0 v) lt_t1) (nxt_goes (e_t1_9_1 v) lt_t1) rfl (ro_t1_10 v)
theorem ro_t1_8 (v : Int) : Rounds kp FKt1 FRt1 (t1_8 v) 3 (t1_11 v) := .more (nxt_goes (e_t1_8_0 v) lt_t1) (nxt_goes (e_t1_8_1 v) lt_t1) rfl (ro_t1_9 v)
theorem ro_t1_7 (v : Int) : Rounds kp FKt1 FRt1 (t1_7 v) 4 (t1_11 v) := .more (nxt_goes (e_t1_7_0 v) lt_t1) (nxt_goes (e_t1_7_1 v) lt_t1) rfl (ro_t1_8 v)
theorem ro_t1_6 (v : Int) : Rounds kp FKt1 FRt1 (t1_6 v) 5 (t1_11 v) := .more (nxt_goes (e_t1_6_0 v) lt_t1) (nxt_goes (e_t1_6_1 v) lt_t1) rfl (ro_t1_7 v)
theorem ro_t1_5 (v : Int) : Rounds kp FKt1 FRt1 (t1_5 v) 6 (t1_11 v) := .more (nxt_goes (e_t1_5_0 v) lt_t1) (nxt_goes (e_t1_5_1 v) lt_t1) rfl (ro_t1_6 v)
theorem ro_t1_4 (v : Int) : Rounds kp FKt1 FRt1 (t1_4 v) 7 (t1_11 v) := .more (nxt_goes (e_t1_4_0 v) lt_t1) (nxt_goes (e_t1_4_1 v) lt_t1) rfl (ro_t1_5 v)
theorem ro_t1_3 (v : Int) : Rounds kp FKt1 FRt1 (t1_3 v) 8 (t1_11 v) := .more (nxt_goes (e_t1_3_0 v) lt_t1) (nxt_goes (e_t1_3_1 v) lt_t1) rfl (ro_t1_4 v)
theorem ro_t1_2 (v : Int) : Rounds kp FKt1 FRt1 (t1_2 v) 9 (t1_11 v) := .more (nxt_goes (e_t1_2_0 v) lt_t1) (nxt_goes (e_t1_2_1 v) lt_t1) rfl (ro_t1_3 v)
theorem ro_t1_1 (v : Int) : Rounds kp FKt1 FRt1 (t1_1 v) 10 (t1_11 v) := .more (nxt_goes (e_t1_1_0 v) lt_t1) (nxt_goes (e_t1_1_1 v) lt_t1) rfl (ro_t1_2 v)
theorem ro_t1_0 (v : Int) : Rounds kp FKt1 FRt1 (t1_0 v) 11 (t1_11 v) := .more (nxt_goes (e_t1_0_0 v) lt_t1) (nxt_goes (e_t1_0_1 v) lt_t1) rfl (ro_t1_1 v)
def fin_t1 (v : Int) : List St := [t1_11 v]
theorem rounds_t1 (v : Int) : ∀ s ∈ all_t1 v, ∃ m s', m < 60000 ∧ Rounds kp FKt1 FRt1 s m s' ∧ s' ∈ fin_t1 v := by
  intro s hs
  unfold all_t1 at hs
  rcases List.mem_cons.1 hs with rfl | hs
  · exact ⟨11, _, by omega, ro_t1_0 v, List.mem_of_getElem? (i := 0) (by kernel_rfl)⟩
  rcases List.mem_cons.1 hs with rfl | hs
  · exact ⟨10, _, by omega, ro_t1_1 v, List.mem_of_getElem? (i := 0) (by kernel_rfl)⟩
  rcases List.mem_cons.1 hs with rfl | hs
  · exact ⟨9, _, by omega, ro_t1_2 v, List.mem_of_getElem? (i := 0) (by kernel_rfl)⟩
  rcases List.mem_cons.1 hs with rfl | hs
  · exact ⟨8, _, by omega, ro_t1_3 v, List.mem_of_getElem? (i := 0) (by kernel_rfl)⟩
  rcases List.mem_cons.1 hs with rfl | hs
  · exact ⟨7, _, by omega, ro_t1_4 v, List.mem_of_getElem? (i := 0) (by kernel_rfl)⟩
  rcases List.mem_cons.1 hs with rfl | hs
  · exact ⟨6, _, by omega, ro_t1_5 v, List.mem_of_getElem? (i := 0) (by kernel_rfl)⟩
  rcases List.mem_cons.1 hs with rfl | hs
  · exact ⟨5, _, by omega, ro_t1_6 v, List.mem_of_getElem? (i := 0) (by kernel_rfl)⟩
  rcases List.mem_cons.1 hs with rfl | hs
  · exact ⟨4, _, by omega, ro_t1_7 v, List.mem_of_getElem? (i := 0) (by kernel_rfl)⟩
  rcases List.mem_cons.1 hs with rfl | hs
  · exact ⟨3, _, by omega, ro_t1_8 v, List.mem_of_getElem? (i := 0) (by kernel_rfl)⟩
  rcases List.mem_cons.1 hs with rfl | hs
  · exact ⟨2, _, by omega, ro_t1_9 v, List.mem_of_getElem? (i := 0) (by kernel_rfl)⟩
  rcases List.mem_cons.1 hs with rfl | hs
  · exact ⟨1, _, by omega, ro_t1_10 v, List.mem_of_getElem? (i := 0) (by kernel_rfl)⟩
  rcases List.mem_cons.1 hs with rfl | hs
  · exact ⟨0, _, by omega, ro_t1_11 v, List.mem_of_getElem? (i := 0) (by kernel_rfl)⟩
  exact absurd hs List.not_mem_nil
theorem top_t2 : boxTop FKt2 = FRt2 := by kernel_rfl
theorem lt_t2 : ∀ x, FKt2.contains x = true → x < FRt2 := fun x hx => by
  rw [← top_t2]; exact boxTop_lt (List.elem_iff.1 hx)
theorem fl_t2_0 (v : Int) : flatS FKt2 FRt2 (t2_0 v) = true := by kernel_rfl
theorem co_t2_0 (v : Int) : cores2 FKt2 (t2_0 v) 531 = true := by kernel_rfl
theorem fl_t2_1 (v : Int) : flatS FKt2 FRt2 (t2_1 v) = true := by kernel_rfl
theorem co_t2_1 (v : Int) : cores2 FKt2 (t2_1 v) 531 = true := by kernel_rfl
theorem fl_t2_2 (v : Int) : flatS FKt2 FRt2 (t2_2 v) = true := by kernel_rfl
theorem co_t2_2 (v : Int) : cores2 FKt2 (t2_2 v) 531 = true := by kernel_rfl
theorem fl_t2_3 (v : Int) : flatS FKt2 FRt2 (t2_3 v) = true := by kernel_rfl
theorem co_t2_3 (v : Int) : cores2 FKt2 (t2_3 v) 531 = true := by kernel_rfl
theorem fl_t2_4 (v : Int) : flatS FKt2 FRt2 (t2_4 v) = true := by kernel_rfl
theorem co_t2_4 (v : Int) : cores2 FKt2 (t2_4 v) 531 = true := by kernel_rfl
theorem fl_t2_5 (v : Int) : flatS FKt2 FRt2 (t2_5 v) = true := by kernel_rfl
theorem co_t2_5 (v : Int) : cores2 FKt2 (t2_5 v) 531 = true := by kernel_rfl
theorem fl_t2_6 (v : Int) : flatS FKt2 FRt2 (t2_6 v) = true := by kernel_rfl
theorem co_t2_6 (v : Int) : cores2 FKt2 (t2_6 v) 531 = true := by kernel_rfl
theorem fl_t2_7 (v : Int) : flatS FKt2 FRt2 (t2_7 v) = true := by kernel_rfl
theorem co_t2_7 (v : Int) : cores2 FKt2 (t2_7 v) 531 = true := by kernel_rfl
theorem fl_t2_8 (v : Int) : flatS FKt2 FRt2 (t2_8 v) = true := by kernel_rfl
theorem co_t2_8 (v : Int) : cores2 FKt2 (t2_8 v) 531 = true := by kernel_rfl
theorem fl_t2_9 (v : Int) : flatS FKt2 FRt2 (t2_9 v) = true := by kernel_rfl
theorem co_t2_9 (v : Int) : cores2 FKt2 (t2_9 v) 531 = true := by kernel_rfl
theorem fl_t2_10 (v : Int) : flatS FKt2 FRt2 (t2_10 v) = true := by kernel_rfl
theorem co_t2_10 (v : Int) : cores2 FKt2 (t2_10 v) 531 = true := by kernel_rfl
theorem fl_t2_11 (v : Int) : flatS FKt2 FRt2 (t2_11 v) = true := by kernel_rfl
theorem co_t2_11 (v : Int) : cores2 FKt2 (t2_11 v) 531 = true := by kernel_rfl
theorem fl_t2_12 (v : Int) : flatS FKt2 FRt2 (t2_12 v) = true := by kernel_rfl
theorem co_t2_12 (v : Int) : cores2 FKt2 (t2_12 v) 531 = true := by kernel_rfl
theorem fl_t2_13 (v : Int) : flatS FKt2 FRt2 (t2_13 v) = true := by kernel_rfl
theorem co_t2_13 (v : Int) : cores2 FKt2 (t2_13 v) 531 = true := by kernel_rfl
theorem fl_t2_14 (v : Int) : flatS FKt2 FRt2 (t2_14 v) = true := by kernel_rfl
theorem co_t2_14 (v : Int) : cores2 FKt2 (t2_14 v) 531 = true := by kernel_rfl
theorem fl_t2_15 (v : Int) : flatS FKt2 FRt2 (t2_15 v) = true := by kernel_rfl
theorem co_t2_15 (v : Int) : cores2 FKt2 (t2_15 v) 531 = true := by kernel_rfl
theorem fl_t2_16 (v : Int) : flatS FKt2 FRt2 (t2_16 v) = true := by kernel_rfl
theorem co_t2_16 (v : Int) : cores2 FKt2 (t2_16 v) 531 = true := by kernel_rfl
theorem fl_t2_17 (v : Int) : flatS FKt2 FRt2 (t2_17 v) = true := by kernel_rfl
theorem co_t2_17 (v : Int) : cores2 FKt2 (t2_17 v) 531 = true := by kernel_rfl
theorem fl_t2_18 (v : Int) : flatS FKt2 FRt2 (t2_18 v) = true := by kernel_rfl
theorem co_t2_18 (v : Int) : cores2 FKt2 (t2_18 v) 531 = true := by kernel_rfl
theorem fl_t2_19 (v : Int) : flatS FKt2 FRt2 (t2_19 v) = true := by kernel_rfl
theorem co_t2_19 (v : Int) : cores2 FKt2 (t2_19 v) 531 = true := by kernel_rfl
theorem fl_t2_20 (v : Int) : flatS FKt2 FRt2 (t2_20 v) = true := by kernel_rfl
theorem co_t2_20 (v : Int) : cores2 FKt2 (t2_20 v) 531 = true := by kernel_rfl
theorem fl_t2_21 (v : Int) : flatS FKt2 FRt2 (t2_21 v) = true := by kernel_rfl
theorem co_t2_21 (v : Int) : cores2 FKt2 (t2_21 v) 531 = true := by kernel_rfl
theorem fl_t2_22 (v : Int) : flatS FKt2 FRt2 (t2_22 v) = true := by kernel_rfl
theorem co_t2_22 (v : Int) : cores2 FKt2 (t2_22 v) 531 = true := by kernel_rfl
theorem fl_t2_23 (v : Int) : flatS FKt2 FRt2 (t2_23 v) = true := by kernel_rfl
theorem co_t2_23 (v : Int) : cores2 FKt2 (t2_23 v) 531 = true := by kernel_rfl
theorem fl_t2_24 (v : Int) : flatS FKt2 FRt2 (t2_24 v) = true := by kernel_rfl
theorem co_t2_24 (v : Int) : cores2 FKt2 (t2_24 v) 531 = true := by kernel_rfl
theorem fl_t2_25 (v : Int) : flatS FKt2 FRt2 (t2_25 v) = true := by kernel_rfl
theorem co_t2_25 (v : Int) : cores2 FKt2 (t2_25 v) 531 = true := by kernel_rfl
theorem fl_t2_26 (v : Int) : flatS FKt2 FRt2 (t2_26 v) = true := by kernel_rfl
theorem co_t2_26 (v : Int) : cores2 FKt2 (t2_26 v) 531 = true := by kernel_rfl
theorem fl_t2_27 (v : Int) : flatS FKt2 FRt2 (t2_27 v) = true := by kernel_rfl
theorem co_t2_27 (v : Int) : cores2 FKt2 (t2_27 v) 531 = true := by kernel_rfl
theorem fl_t2_28 (v : Int) : flatS FKt2 FRt2 (t2_28 v) = true := by kernel_rfl
theorem co_t2_28 (v : Int) : cores2 FKt2 (t2_28 v) 531 = true := by kernel_rfl
theorem fl_t2_29 (v : Int) : flatS FKt2 FRt2 (t2_29 v) = true := by kernel_rfl
theorem co_t2_29 (v : Int) : cores2 FKt2 (t2_29 v) 531 = true := by kernel_rfl
theorem fl_t2_30 (v : Int) : flatS FKt2 FRt2 (t2_30 v) = true := by kernel_rfl
theorem co_t2_30 (v : Int) : cores2 FKt2 (t2_30 v) 531 = true := by kernel_rfl
theorem fl_t2_31 (v : Int) : flatS FKt2 FRt2 (t2_31 v) = true := by kernel_rfl
theorem co_t2_31 (v : Int) : cores2 FKt2 (t2_31 v) 531 = true := by kernel_rfl
theorem fl_t2_32 (v : Int) : flatS FKt2 FRt2 (t2_32 v) = true := by kernel_rfl
theorem co_t2_32 (v : Int) : cores2 FKt2 (t2_32 v) 531 = true := by kernel_rfl
theorem fl_t2_33 (v : Int) : flatS FKt2 FRt2 (t2_33 v) = true := by kernel_rfl
theorem co_t2_33 (v : Int) : cores2 FKt2 (t2_33 v) 531 = true := by kernel_rfl
theorem fl_t2_34 (v : Int) : flatS FKt2 FRt2 (t2_34 v) = true := by kernel_rfl
theorem co_t2_34 (v : Int) : cores2 FKt2 (t2_34 v) 531 = true := by kernel_rfl
theorem fl_t2_35 (v : Int) : flatS FKt2 FRt2 (t2_35 v) = true := by kernel_rfl
theorem co_t2_35 (v : Int) : cores2 FKt2 (t2_35 v) 531 = true := by kernel_rfl
theorem fl_t2_36 (v : Int) : flatS FKt2 FRt2 (t2_36 v) = true := by kernel_rfl
theorem co_t2_36 (v : Int) : cores2 FKt2 (t2_36 v) 531 = true := by kernel_rfl
theorem fl_t2_37 (v : Int) : flatS FKt2 FRt2 (t2_37 v) = true := by kernel_rfl
theorem co_t2_37 (v : Int) : cores2 FKt2 (t2_37 v) 531 = true := by kernel_rfl
theorem fl_t2_38 (v : Int) : flatS FKt2 FRt2 (t2_38 v) = true := by kernel_rfl
theorem co_t2_38 (v : Int) : cores2 FKt2 (t2_38 v) 531 = true := by kernel_rfl
theorem fl_t2_39 (v : Int) : flatS FKt2 FRt2 (t2_39 v) = true := by kernel_rfl
theorem co_t2_39 (v : Int) : cores2 FKt2 (t2_39 v) 531 = true := by kernel_rfl
theorem fl_t2_40 (v : Int) : flatS FKt2 FRt2 (t2_40 v) = true := by kernel_rfl
theorem co_t2_40 (v : Int) : cores2 FKt2 (t2_40 v) 531 = true := by kernel_rfl
theorem fl_t2_41 (v : Int) : flatS FKt2 FRt2 (t2_41 v) = true := by kernel_rfl
theorem co_t2_41 (v : Int) : cores2 FKt2 (t2_41 v) 531 = true := by kernel_rfl
theorem fl_t2_42 (v : Int) : flatS FKt2 FRt2 (t2_42 v) = true := by kernel_rfl
theorem co_t2_42 (v : Int) : cores2 FKt2 (t2_42 v) 531 = true := by kernel_rfl
def all_t2 (v : Int) : List St := [t2_0 v, t2_1 v, t2_2 v, t2_3 v, t2_4 v, t2_5 v, t2_6 v, t2_7 v, t2_8 v, t2_9 v, t2_10 v, t2_11 v, t2_12 v, t2_13 v, t2_14 v, t2_15 v, t2_16 v, t2_17 v, t2_18 v, t2_19 v, t2_20 v, t2_21 v, t2_22 v, t2_23 v, t2_24 v, t2_25 v, t2_26 v, t2_27 v, t2_28 v, t2_29 v, t2_30 v, t2_31 v, t2_32 v, t2_33 v, t2_34 v, t2_35 v, t2_36 v, t2_37 v, t2_38 v, t2_39 v, t2_40 v, t2_41 v, t2_42 v]
theorem in_t2_0 (v : Int) : t2_0 v ∈ all_t2 v := List.mem_of_getElem? (i := 0) (by kernel_rfl)
theorem in_t2_1 (v : Int) : t2_1 v ∈ all_t2 v := List.mem_of_getElem? (i := 1) (by kernel_rfl)
theorem in_t2_2 (v : Int) : t2_2 v ∈ all_t2 v := List.mem_of_getElem? (i := 2) (by kernel_rfl)
theorem in_t2_3 (v : Int) : t2_3 v ∈ all_t2 v := List.mem_of_getElem? (i := 3) (by kernel_rfl)
theorem in_t2_4 (v : Int) : t2_4 v ∈ all_t2 v := List.mem_of_getElem? (i := 4) (by kernel_rfl)
theorem in_t2_5 (v : Int) : t2_5 v ∈ all_t2 v := List.mem_of_getElem? (i := 5) (by kernel_rfl)
theorem in_t2_6 (v : Int) : t2_6 v ∈ all_t2 v := List.mem_of_getElem? (i := 6) (by kernel_rfl)
theorem in_t2_7 (v : Int) : t2_7 v ∈ all_t2 v := List.mem_of_getElem? (i := 7) (by kernel_rfl)
theorem in_t2_8 (v : Int) : t2_8 v ∈ all_t2 v := List.mem_of_getElem? (i := 8) (by kernel_rfl)
theorem in_t2_9 (v : Int) : t2_9 v ∈ all_t2 v := List.mem_of_getElem? (i := 9) (by kernel_rfl)
theorem in_t2_10 (v : Int) : t2_10 v ∈ all_t2 v := List.mem_of_getElem? (i := 10) (by kernel_rfl)
theorem in_t2_11 (v : Int) : t2_11 v ∈ all_t2 v := List.mem_of_getElem? (i := 11) (by kernel_rfl)
theorem in_t2_12 (v : Int) : t2_12 v ∈ all_t2 v := List.mem_of_getElem? (i := 12) (by kernel_rfl)
theorem in_t2_13 (v : Int) : t2_13 v ∈ all_t2 v := List.mem_of_getElem? (i := 13) (by kernel_rfl)
theorem in_t2_14 (v : Int) : t2_14 v ∈ all_t2 v := List.mem_of_getElem? (i := 14) (by kernel_rfl)
theorem in_t2_15 (v : Int) : t2_15 v ∈ all_t2 v := List.mem_of_getElem? (i := 15) (by kernel_rfl)
theorem in_t2_16 (v : Int) : t2_16 v ∈ all_t2 v := List.mem_of_getElem? (i := 16) (by kernel_rfl)
theorem in_t2_17 (v : Int) : t2_17 v ∈ all_t2 v := List.mem_of_getElem? (i := 17) (by kernel_rfl)
theorem in_t2_18 (v : Int) : t2_18 v ∈ all_t2 v := List.mem_of_getElem? (i := 18) (by kernel_rfl)
theorem in_t2_19 (v : Int) : t2_19 v ∈ all_t2 v := List.mem_of_getElem? (i := 19) (by kernel_rfl)
theorem in_t2_20 (v : Int) : t2_20 v ∈ all_t2 v := List.mem_of_getElem? (i := 20) (by kernel_rfl)
theorem in_t2_21 (v : Int) : t2_21 v ∈ all_t2 v := List.mem_of_getElem? (i := 21) (by kernel_rfl)
theorem in_t2_22 (v : Int) : t2_22 v ∈ all_t2 v := List.mem_of_getElem? (i := 22) (by kernel_rfl)
theorem in_t2_23 (v : Int) : t2_23 v ∈ all_t2 v := List.mem_of_getElem? (i := 23) (by kernel_rfl)
theorem in_t2_24 (v : Int) : t2_24 v ∈ all_t2 v := List.mem_of_getElem? (i := 24) (by kernel_rfl)
theorem in_t2_25 (v : Int) : t2_25 v ∈ all_t2 v := List.mem_of_getElem? (i := 25) (by kernel_rfl)
theorem in_t2_26 (v : Int) : t2_26 v ∈ all_t2 v := List.mem_of_getElem? (i := 26) (by kernel_rfl)
theorem in_t2_27 (v : Int) : t2_27 v ∈ all_t2 v := List.mem_of_getElem? (i := 27) (by kernel_rfl)
theorem in_t2_28 (v : Int) : t2_28 v ∈ all_t2 v := List.mem_of_getElem? (i := 28) (by kernel_rfl)
theorem in_t2_29 (v : Int) : t2_29 v ∈ all_t2 v := List.mem_of_getElem? (i := 29) (by kernel_rfl)
theorem in_t2_30 (v : Int) : t2_30 v ∈ all_t2 v := List.mem_of_getElem? (i := 30) (by kernel_rfl)
theorem in_t2_31 (v : Int) : t2_31 v ∈ all_t2 v := List.mem_of_getElem? (i := 31) (by kernel_rfl)
theorem in_t2_32 (v : Int) : t2_32 v ∈ all_t2 v := List.mem_of_getElem? (i := 32) (by kernel_rfl)
theorem in_t2_33 (v : Int) : t2_33 v ∈ all_t2 v := List.mem_of_getElem? (i := 33) (by kernel_rfl)
theorem in_t2_34 (v : Int) : t2_34 v ∈ all_t2 v := List.mem_of_getElem? (i := 34) (by kernel_rfl)
theorem in_t2_35 (v : Int) : t2_35 v ∈ all_t2 v := List.mem_of_getElem? (i := 35) (by kernel_rfl)
theorem in_t2_36 (v : Int) : t2_36 v ∈ all_t2 v := List.mem_of_getElem? (i := 36) (by kernel_rfl)
theorem in_t2_37 (v : Int) : t2_37 v ∈ all_t2 v := List.mem_of_getElem? (i := 37) (by kernel_rfl)
theorem in_t2_38 (v : Int) : t2_38 v ∈ all_t2 v := List.mem_of_getElem? (i := 38) (by kernel_rfl)
theorem in_t2_39 (v : Int) : t2_39 v ∈ all_t2 v := List.mem_of_getElem? (i := 39) (by kernel_rfl)
theorem in_t2_40 (v : Int) : t2_40 v ∈ all_t2 v := List.mem_of_getElem? (i := 40) (by kernel_rfl)
theorem in_t2_41 (v : Int) : t2_41 v ∈ all_t2 v := List.mem_of_getElem? (i := 41) (by kernel_rfl)
theorem in_t2_42 (v : Int) : t2_42 v ∈ all_t2 v := List.mem_of_getElem? (i := 42) (by kernel_rfl)
theorem closed_t2 (v : Int) : Closed kp FKt2 FRt2 fun s => s ∈ all_t2 v where
  ptr := ⟨531, 0, 0, 0, rfl⟩
  low := by kernel_rfl
  go := by
    intro s hs
    unfold all_t2 at hs
    rcases List.mem_cons.1 hs with rfl | hs
    · exact goes_all lt_t2 (e_t2_0_0 v) (e_t2_0_1 v) (co_t2_0 v) (fl_t2_0 v) (in_t2_0 v) (in_t2_1 v) (in_t2_0 v)
    rcases List.mem_cons.1 hs with rfl | hs
    · exact goes_all lt_t2 (e_t2_1_0 v) (e_t2_1_1 v) (co_t2_1 v) (fl_t2_1 v) (in_t2_1 v) (in_t2_2 v) (in_t2_1 v)
    rcases List.mem_cons.1 hs with rfl | hs
    · exact goes_all lt_t2 (e_t2_2_0 v) (e_t2_2_1 v) (co_t2_2 v) (fl_t2_2 v) (in_t2_2 v) (in_t2_3 v) (in_t2_2 v)
    rcases List.mem_cons.1 hs with rfl | hs
    · exact goes_all lt_t2 (e_t2_3_0 v) (e_t2_3_1 v) (co_t2_3 v) (fl_t2_3 v) (in_t2_3 v) (in_t2_4 v) (in_t2_3 v)
    rcases List.mem_cons.1 hs with rfl | hs
    · exact goes_all lt_t2 (e_t2_4_0 v) (e_t2_4_1 v) (co_t2_4 v) (fl_t2_4 v) (in_t2_4 v) (in_t2_5 v) (in_t2_4 v)
    rcases List.mem_cons.1 hs with rfl | hs
    · exact goes_all lt_t2 (e_t2_5_0 v) (e_t2_5_1 v) (co_t2_5 v) (fl_t2_5 v) (in_t2_5 v) (in_t2_6 v) (in_t2_5 v)
    rcases List.mem_cons.1 hs with rfl | hs
    · exact goes_all lt_t2 (e_t2_6_0 v) (e_t2_6_1 v) (co_t2_6 v) (fl_t2_6 v) (in_t2_6 v) (in_t2_7 v) (in_t2_6 v)
    rcases List.mem_cons.1 hs with rfl | hs
    · exact goes_all lt_t2 (e_t2_7_0 v) (e_t2_7_1 v) (co_t2_7 v) (fl_t2_7 v) (in_t2_7 v) (in_t2_8 v) (in_t2_7 v)
    rcases List.mem_cons.1 hs with rfl | hs
    · exact goes_all lt_t2 (e_t2_8_0 v) (e_t2_8_1 v) (co_t2_8 v) (fl_t2_8 v) (in_t2_8 v) (in_t2_9 v) (in_t2_10 v)
    rcases List.mem_cons.1 hs with rfl | hs
    · exact goes_all lt_t2 (e_t2_9_0 v) (e_t2_9_1 v) (co_t2_9 v) (fl_t2_9 v) (in_t2_9 v) (in_t2_11 v) (in_t2_12 v)
    rcases List.mem_cons.1 hs with rfl | hs
    · exact goes_all lt_t2 (e_t2_10_0 v) (e_t2_10_1 v) (co_t2_10 v) (fl_t2_10 v) (in_t2_10 v) (in_t2_13 v) (in_t2_10 v)
    rcases List.mem_cons.1 hs with rfl | hs
    · exact goes_all lt_t2 (e_t2_11_0 v) (e_t2_11_1 v) (co_t2_11 v) (fl_t2_11 v) (in_t2_11 v) (in_t2_14 v) (in_t2_15 v)
    rcases List.mem_cons.1 hs with rfl | hs
    · exact goes_all lt_t2 (e_t2_12_0 v) (e_t2_12_1 v) (co_t2_12 v) (fl_t2_12 v) (in_t2_12 v) (in_t2_16 v) (in_t2_12 v)
    rcases List.mem_cons.1 hs with rfl | hs
    · exact goes_all lt_t2 (e_t2_13_0 v) (e_t2_13_1 v) (co_t2_13 v) (fl_t2_13 v) (in_t2_13 v) (in_t2_17 v) (in_t2_13 v)
    rcases List.mem_cons.1 hs with rfl | hs
    · exact goes_all lt_t2 (e_t2_14_0 v) (e_t2_14_1 v) (co_t2_14 v) (fl_t2_14 v) (in_t2_14 v) (in_t2_18 v) (in_t2_19 v)
    rcases List.mem_cons.1 hs with rfl | hs
    · exact goes_all lt_t2 (e_t2_15_0 v) (e_t2_15_1 v) (co_t2_15 v) (fl_t2_15 v) (in_t2_15 v) (in_t2_20 v) (in_t2_15 v)
    rcases List.mem_cons.1 hs with rfl | hs
    · exact goes_all lt_t2 (e_t2_16_0 v) (e_t2_16_1 v) (co_t2_16 v) (fl_t2_16 v) (in_t2_16 v) (in_t2_21 v) (in_t2_16 v)
    rcases List.mem_cons.1 hs with rfl | hs
    · exact goes_all lt_t2 (e_t2_17_0 v) (e_t2_17_1 v) (co_t2_17 v) (fl_t2_17 v) (in_t2_17 v) (in_t2_22 v) (in_t2_17 v)
    rcases List.mem_cons.1 hs with rfl | hs
    · exact goes_all lt_t2 (e_t2_18_0 v) (e_t2_18_1 v) (co_t2_18 v) (fl_t2_18 v) (in_t2_18 v) (in_t2_23 v) (in_t2_24 v)
    rcases List.mem_cons.1 hs with rfl | hs
    · exact goes_all lt_t2 (e_t2_19_0 v) (e_t2_19_1 v) (co_t2_19 v) (fl_t2_19 v) (in_t2_19 v) (in_t2_25 v) (in_t2_19 v)
    rcases List.mem_cons.1 hs with rfl | hs
    · exact goes_all lt_t2 (e_t2_20_0 v) (e_t2_20_1 v) (co_t2_20 v) (fl_t2_20 v) (in_t2_20 v) (in_t2_26 v) (in_t2_20 v)
    rcases List.mem_cons.1 hs with rfl | hs
    · exact goes_all lt_t2 (e_t2_21_0 v) (e_t2_21_1 v) (co_t2_21 v) (fl_t2_21 v) (in_t2_21 v) (in_t2_27 v) (in_t2_21 v)
    rcases List.mem_cons.1 hs with rfl | hs
    · exact goes_all lt_t2 (e_t2_22_0 v) (e_t2_22_1 v) (co_t2_22 v) (fl_t2_22 v) (in_t2_22 v) (in_t2_28 v) (in_t2_22 v)
    rcases List.mem_cons.1 hs with rfl | hs
    · exact goes_all lt_t2 (e_t2_23_0 v) (e_t2_23_1 v) (co_t2_23 v) (fl_t2_23 v) (in_t2_23 v) (in_t2_29 v) (in_t2_30 v)
    rcases List.mem_cons.1 hs with rfl | hs
    · exact goes_all lt_t2 (e_t2_24_0 v) (e_t2_24_1 v) (co_t2_24 v) (fl_t2_24 v) (in_t2_24 v) (in_t2_31 v) (in_t2_24 v)
    rcases List.mem_cons.1 hs with rfl | hs
    · exact goes_all lt_t2 (e_t2_25_0 v) (e_t2_25_1 v) (co_t2_25 v) (fl_t2_25 v) (in_t2_25 v) (in_t2_32 v) (in_t2_25 v)
    rcases List.mem_cons.1 hs with rfl | hs
    · exact goes_all lt_t2 (e_t2_26_0 v) (e_t2_26_1 v) (co_t2_26 v) (fl_t2_26 v) (in_t2_26 v) (in_t2_33 v) (in_t2_26 v)
    rcases List.mem_cons.1 hs with rfl | hs
    · exact goes_all lt_t2 (e_t2_27_0 v) (e_t2_27_1 v) (co_t2_27 v) (fl_t2_27 v) (in_t2_27 v) (in_t2_34 v) (in_t2_27 v)
    rcases List.mem_cons.1 hs with rfl | hs
    · exact goes_all lt_t2 (e_t2_28_0 v) (e_t2_28_1 v) (co_t2_28 v) (fl_t2_28 v) (in_t2_28 v) (in_t2_35 v) (in_t2_28 v)
    rcases List.mem_cons.1 hs with rfl | hs
    · exact goes_all lt_t2 (e_t2_29_0 v) (e_t2_29_1 v) (co_t2_29 v) (fl_t2_29 v) (in_t2_29 v) (in_t2_29 v) (in_t2_36 v)
    rcases List.mem_cons.1 hs with rfl | hs
    · exact goes_all lt_t2 (e_t2_30_0 v) (e_t2_30_1 v) (co_t2_30 v) (fl_t2_30 v) (in_t2_30 v) (in_t2_37 v) (in_t2_30 v)
    rcases List.mem_cons.1 hs with rfl | hs
    · exact goes_all lt_t2 (e_t2_31_0 v) (e_t2_31_1 v) (co_t2_31 v) (fl_t2_31 v) (in_t2_31 v) (in_t2_38 v) (in_t2_31 v)
    rcases List.mem_cons.1 hs with rfl | hs
    · exact goes_all lt_t2 (e_t2_32_0 v) (e_t2_32_1 v) (co_t2_32 v) (fl_t2_32 v) (in_t2_32 v) (in_t2_39 v) (in_t2_32 v)
    rcases List.mem_cons.1 hs with rfl | hs
    · exact goes_all lt_t2 (e_t2_33_0 v) (e_t2_33_1 v) (co_t2_33 v) (fl_t2_33 v) (in_t2_33 v) (in_t2_40 v) (in_t2_33 v)
    rcases List.mem_cons.1 hs with rfl | hs
    · exact goes_all lt_t2 (e_t2_34_0 v) (e_t2_34_1 v) (co_t2_34 v) (fl_t2_34 v) (in_t2_34 v) (in_t2_41 v) (in_t2_34 v)
    rcases List.mem_cons.1 hs with rfl | hs
    · exact goes_all lt_t2 (e_t2_35_0 v) (e_t2_35_1 v) (co_t2_35 v) (fl_t2_35 v) (in_t2_35 v) (in_t2_42 v) (in_t2_35 v)
    rcases List.mem_cons.1 hs with rfl | hs
    · exact goes_all lt_t2 (e_t2_36_0 v) (e_t2_36_1 v) (co_t2_36 v) (fl_t2_36 v) (in_t2_36 v) (in_t2_36 v) (in_t2_36 v)
    rcases List.mem_cons.1 hs with rfl | hs
    · exact goes_all lt_t2 (e_t2_37_0 v) (e_t2_37_1 v) (co_t2_37 v) (fl_t2_37 v) (in_t2_37 v) (in_t2_37 v) (in_t2_37 v)
    rcases List.mem_cons.1 hs with rfl | hs
    · exact goes_all lt_t2 (e_t2_38_0 v) (e_t2_38_1 v) (co_t2_38 v) (fl_t2_38 v) (in_t2_38 v) (in_t2_38 v) (in_t2_38 v)
    rcases List.mem_cons.1 hs with rfl | hs
    · exact goes_all lt_t2 (e_t2_39_0 v) (e_t2_39_1 v) (co_t2_39 v) (fl_t2_39 v) (in_t2_39 v) (in_t2_39 v) (in_t2_39 v)
    rcases List.mem_cons.1 hs with rfl | hs
    · exact goes_all lt_t2 (e_t2_40_0 v) (e_t2_40_1 v) (co_t2_40 v) (fl_t2_40 v) (in_t2_40 v) (in_t2_40 v) (in_t2_40 v)
    rcases List.mem_cons.1 hs with rfl | hs
    · exact goes_all lt_t2 (e_t2_41_0 v) (e_t2_41_1 v) (co_t2_41 v) (fl_t2_41 v) (in_t2_41 v) (in_t2_41 v) (in_t2_41 v)
    rcases List.mem_cons.1 hs with rfl | hs
    · exact goes_all lt_t2 (e_t2_42_0 v) (e_t2_42_1 v) (co_t2_42 v) (fl_t2_42 v) (in_t2_42 v) (in_t2_42 v) (in_t2_42 v)
    exact absurd hs List.not_mem_nil
theorem ro_t2_42 (v : Int) : Rounds kp FKt2 FRt2 (t2_42 v) 0 (t2_42 v) := .stop (nxt_goes (e_t2_42_0 v) lt_t2) (nxt_goes (e_t2_42_1 v) lt_t2)
theorem ro_t2_41 (v : Int) : Rounds kp FKt2 FRt2 (t2_41 v) 0 (t2_41 v) := .stop (nxt_goes (e_t2_41_0 v) lt_t2) (nxt_goes (e_t2_41_1 v) lt_t2)
theorem ro_t2_40 (v : Int) : Rounds kp FKt2 FRt2 (t2_40 v) 0 (t2_40 v) := .stop (nxt_goes (e_t2_40_0 v) lt_t2) (nxt_goes (e_t2_40_1 v) lt_t2)
theorem ro_t2_39 (v : Int) : Rounds kp FKt2 FRt2 (t2_39 v) 0 (t2_39 v) := .stop (nxt_goes (e_t2_39_0 v) lt_t2) (nxt_goes (e_t2_39_1 v) lt_t2)
theorem ro_t2_38 (v : Int) : Rounds kp FKt2 FRt2 (t2_38 v) 0 (t2_38 v) := .stop (nxt_goes (e_t2_38_0 v) lt_t2) (nxt_goes (e_t2_38_1 v) lt_t2)
theorem ro_t2_37 (v : Int) : Rounds kp FKt2 FRt2 (t2_37 v) 0 (t2_37 v) := .stop (nxt_goes (e_t2_37_0 v) lt_t2) (nxt_goes (e_t2_37_1 v) lt_t2)
theorem ro_t2_36 (v : Int) : Rounds kp FKt2 FRt2 (t2_36 v) 0 (t2_36 v) := .stop (nxt_goes (e_t2_36_0 v) lt_t2) (nxt_goes (e_t2_36_1 v) lt_t2)
theorem ro_t2_35 (v : Int) : Rounds kp FKt2 FRt2 (t2_35 v) 1 (t2_42 v) := .more (nxt_goes (e_t2_35_0 v) lt_t2) (nxt_goes (e_t2_42_1 v) lt_t2) rfl (ro_t2_42 v)
theorem ro_t2_34 (v : Int) : Rounds kp FKt2 FRt2 (t2_34 v) 1 (t2_41 v) := .more (nxt_goes (e_t2_34_0 v) lt_t2) (nxt_goes (e_t2_41_1 v) lt_t2) rfl (ro_t2_41 v)
theorem ro_t2_33 (v : Int) : Rounds kp FKt2 FRt2 (t2_33 v) 1 (t2_40 v) := .more (nxt_goes (e_t2_33_0 v) lt_t2) (nxt_goes (e_t2_40_1 v) lt_t2) rfl (ro_t2_40 v)
theorem ro_t2_32 (v : Int) : Rounds kp FKt2 FRt2 (t2_32 v) 1 (t2_39 v) := .more (nxt_goes (e_t2_32_0 v) lt_t2) (nxt_goes (e_t2_39_1 v) lt_t2) rfl (ro_t2_39 v)
theorem ro_t2_31 (v : Int) : Rounds kp FKt2 FRt2 (t2_31 v) 1 (t2_38 v) := .more (nxt_goes (e_t2_31_0 v) lt_t2) (nxt_goes (e_t2_38_1 v) lt_t2) rfl (ro_t2_38 v)
theorem ro_t2_30 (v : Int) : Rounds kp FKt2 FRt2 (t2_30 v) 1 (t2_37 v) := .more (nxt_goes (e_t2_30_0 v) lt_t2) (nxt_goes (e_t2_37_1 v) lt_t2) rfl (ro_t2_37 v)
theorem ro_t2_29 (v : Int) : Rounds kp FKt2 FRt2 (t2_29 v) 1 (t2_36 v) := .more (nxt_goes (e_t2_29_0 v) lt_t2) (nxt_goes (e_t2_29_1 v) lt_t2) rfl (ro_t2_36 v)
theorem ro_t2_28 (v : Int) : Rounds kp FKt2 FRt2 (t2_28 v) 2 (t2_42 v) := .more (nxt_goes (e_t2_28_0 v) lt_t2) (nxt_goes (e_t2_35_1 v) lt_t2) rfl (ro_t2_35 v)
theorem ro_t2_27 (v : Int) : Rounds kp FKt2 FRt2 (t2_27 v) 2 (t2_41 v) := .more (nxt_goes (e_t2_27_0 v) lt_t2) (nxt_goes (e_t2_34_1 v) lt_t2) rfl (ro_t2_34 v)
theorem ro_t2_26 (v : Int) : Rounds kp FKt2 FRt2 (t2_26 v) 2 (t2_40 v) := .more (nxt_goes (e_t2_26_0 v) lt_t2) (nxt_goes (e_t2_33_1 v) lt_t2) rfl (ro_t2_33 v)
theorem ro_t2_25 (v : Int) : Rounds kp FKt2 FRt2 (t2_25 v) 2 (t2_39 v) := .more (nxt_goes (e_t2_25_0 v) lt_t2) (nxt_goes (e_t2_32_1 v) lt_t2) rfl (ro_t2_32 v)
theorem ro_t2_24 (v : Int) : Rounds kp FKt2 FRt2 (t2_24 v) 2 (t2_38 v) := .more (nxt_goes (e_t2_24_0 v) lt_t2) (nxt_goes (e_t2_31_1 v) lt_t2) rfl (ro_t2_31 v)
theorem ro_t2_23 (v : Int) : Rounds kp FKt2 FRt2 (t2_23 v) 1 (t2_36 v) := .more (nxt_goes (e_t2_23_0 v) lt_t2) (nxt_goes (e_t2_29_1 v) lt_t2) rfl (ro_t2_36 v)
theorem ro_t2_22 (v : Int) : Rounds kp FKt2 FRt2 (t2_22 v) 3 (t2_42 v) := .more (nxt_goes (e_t2_22_0 v) lt_t2) (nxt_goes (e_t2_28_1 v) lt_t2) rfl (ro_t2_28 v)
theorem ro_t2_21 (v : Int) : Rounds kp FKt2 FRt2 (t2_21 v) 3 (t2_41 v) := .more (nxt_goes (e_t2_21_0 v) lt_t2) (nxt_goes (e_t2_27_1 v) lt_t2) rfl (ro_t2_27 v)
theorem ro_t2_20 (v : Int) : Rounds kp FKt2 FRt2 (t2_20 v) 3 (t2_40 v) := .more (nxt_goes (e_t2_20_0 v) lt_t2) (nxt_goes (e_t2_26_1 v) lt_t2) rfl (ro_t2_26 v)
theorem ro_t2_19 (v : Int) : Rounds kp FKt2 FRt2 (t2_19 v) 3 (t2_39 v) := .more (nxt_goes (e_t2_19_0 v) lt_t2) (nxt_goes (e_t2_25_1 v) lt_t2) rfl (ro_t2_25 v)
theorem ro_t2_18 (v : Int) : Rounds kp FKt2 FRt2 (t2_18 v) 2 (t2_37 v) := .more (nxt_goes (e_t2_18_0 v) lt_t2) (nxt_goes (e_t2_23_1 v) lt_t2) rfl (ro_t2_30 v)
theorem ro_t2_17 (v : Int) : Rounds kp FKt2 FRt2 (t2_17 v) 4 (t2_42 v) := .more (nxt_goes (e_t2_17_0 v) lt_t2) (nxt_goes (e_t2_22_1 v) lt_t2) rfl (ro_t2_22 v)
theorem ro_t2_16 (v : Int) : Rounds kp FKt2 FRt2 (t2_16 v) 4 (t2_41 v) := .more (nxt_goes (e_t2_16_0 v) lt_t2) (nxt_goes (e_t2_21_1 v) lt_t2) rfl (ro_t2_21 v)
theorem ro_t2_15 (v : Int) : Rounds kp FKt2 FRt2 (t2_15 v) 4 (t2_40 v) := .more (nxt_goes (e_t2_15_0 v) lt_t2) (nxt_goes (e_t2_20_1 v) lt_t2) rfl (ro_t2_20 v)
theorem ro_t2_14 (v : Int) : Rounds kp FKt2 FRt2 (t2_14 v) 3 (t2_38 v) := .more (nxt_goes (e_t2_14_0 v) lt_t2) (nxt_goes (e_t2_18_1 v) lt_t2) rfl (ro_t2_24 v)
theorem ro_t2_13 (v : Int) : Rounds kp FKt2 FRt2 (t2_13 v) 5 (t2_42 v) := .more (nxt_goes (e_t2_13_0 v) lt_t2) (nxt_goes (e_t2_17_1 v) lt_t2) rfl (ro_t2_17 v)
theorem ro_t2_12 (v : Int) : Rounds kp FKt2 FRt2 (t2_12 v) 5 (t2_41 v) := .more (nxt_goes (e_t2_12_0 v) lt_t2) (nxt_goes (e_t2_16_1 v) lt_t2) rfl (ro_t2_16 v)
theorem ro_t2_11 (v : Int) : Rounds kp FKt2 FRt2 (t2_11 v) 4 (t2_39 v) := .more (nxt_goes (e_t2_11_0 v) lt_t2) (nxt_goes (e_t2_14_1 v) lt_t2) rfl (ro_t2_19 v)
theorem ro_t2_10 (v : Int) : Rounds kp FKt2 FRt2 (t2_10 v) 6 (t2_42 v) := .more (nxt_goes (e_t2_10_0 v) lt_t2) (nxt_goes (e_t2_13_1 v) lt_t2) rfl (ro_t2_13 v)
theorem ro_t2_9 (v : Int) : Rounds kp FKt2 FRt2 (t2_9 v) 5 (t2_40 v) := .more (nxt_goes (e_t2_9_0 v) lt_t2) (nxt_goes (e_t2_11_1 v) lt_t2) rfl (ro_t2_15 v)
theorem ro_t2_8 (v : Int) : Rounds kp FKt2 FRt2 (t2_8 v) 6 (t2_41 v) := .more (nxt_goes (e_t2_8_0 v) lt_t2) (nxt_goes (e_t2_9_1 v) lt_t2) rfl (ro_t2_12 v)
theorem ro_t2_7 (v : Int) : Rounds kp FKt2 FRt2 (t2_7 v) 7 (t2_42 v) := .more (nxt_goes (e_t2_7_0 v) lt_t2) (nxt_goes (e_t2_8_1 v) lt_t2) rfl (ro_t2_10 v)
theorem ro_t2_6 (v : Int) : Rounds kp FKt2 FRt2 (t2_6 v) 8 (t2_42 v) := .more (nxt_goes (e_t2_6_0 v) lt_t2) (nxt_goes (e_t2_7_1 v) lt_t2) rfl (ro_t2_7 v)
theorem ro_t2_5 (v : Int) : Rounds kp FKt2 FRt2 (t2_5 v) 9 (t2_42 v) := .more (nxt_goes (e_t2_5_0 v) lt_t2) (nxt_goes (e_t2_6_1 v) lt_t2) rfl (ro_t2_6 v)
theorem ro_t2_4 (v : Int) : Rounds kp FKt2 FRt2 (t2_4 v) 10 (t2_42 v) := .more (nxt_goes (e_t2_4_0 v) lt_t2) (nxt_goes (e_t2_5_1 v) lt_t2) rfl (ro_t2_5 v)
theorem ro_t2_3 (v : Int) : Rounds kp FKt2 FRt2 (t2_3 v) 11 (t2_42 v) := .more (nxt_goes (e_t2_3_0 v) lt_t2) (nxt_goes (e_t2_4_1 v) lt_t2) rfl (ro_t2_4 v)
theorem ro_t2_2 (v : Int) : Rounds kp FKt2 FRt2 (t2_2 v) 12 (t2_42 v) := .more (nxt_goes (e_t2_2_0 v) lt_t2) (nxt_goes (e_t2_3_1 v) lt_t2) rfl (ro_t2_3 v)
theorem ro_t2_1 (v : Int) : Rounds kp FKt2 FRt2 (t2_1 v) 13 (t2_42 v) := .more (nxt_goes (e_t2_1_0 v) lt_t2) (nxt_goes (e_t2_2_1 v) lt_t2) rfl (ro_t2_2 v)
theorem ro_t2_0 (v : Int) : Rounds kp FKt2 FRt2 (t2_0 v) 14 (t2_42 v) := .more (nxt_goes (e_t2_0_0 v) lt_t2) (nxt_goes (e_t2_1_1 v) lt_t2) rfl (ro_t2_1 v)
def fin_t2 (v : Int) : List St := [t2_36 v, t2_37 v, t2_38 v, t2_39 v, t2_40 v, t2_41 v, t2_42 v]
theorem rounds_t2 (v : Int) : ∀ s ∈ all_t2 v, ∃ m s', m < 60000 ∧ Rounds kp FKt2 FRt2 s m s' ∧ s' ∈ fin_t2 v := by
  intro s hs
  unfold all_t2 at hs
  rcases List.mem_cons.1 hs with rfl | hs
  · exact ⟨14, _, by omega, ro_t2_0 v, List.mem_of_getElem? (i := 6) (by kernel_rfl)⟩
  rcases List.mem_cons.1 hs with rfl | hs
  · exact ⟨13, _, by omega, ro_t2_1 v, List.mem_of_getElem? (i := 6) (by kernel_rfl)⟩
  rcases List.mem_cons.1 hs with rfl | hs
  · exact ⟨12, _, by omega, ro_t2_2 v, List.mem_of_getElem? (i := 6) (by kernel_rfl)⟩
  rcases List.mem_cons.1 hs with rfl | hs
  · exact ⟨11, _, by omega, ro_t2_3 v, List.mem_of_getElem? (i := 6) (by kernel_rfl)⟩
  rcases List.mem_cons.1 hs with rfl | hs
  · exact ⟨10, _, by omega, ro_t2_4 v, List.mem_of_getElem? (i := 6) (by kernel_rfl)⟩
  rcases List.mem_cons.1 hs with rfl | hs
  · exact ⟨9, _, by omega, ro_t2_5 v, List.mem_of_getElem? (i := 6) (by kernel_rfl)⟩
  rcases List.mem_cons.1 hs with rfl | hs
  · exact ⟨8, _, by omega, ro_t2_6 v, List.mem_of_getElem? (i := 6) (by kernel_rfl)⟩
  rcases List.mem_cons.1 hs with rfl | hs
  · exact ⟨7, _, by omega, ro_t2_7 v, List.mem_of_getElem? (i := 6) (by kernel_rfl)⟩
  rcases List.mem_cons.1 hs with rfl | hs
  · exact ⟨6, _, by omega, ro_t2_8 v, List.mem_of_getElem? (i := 5) (by kernel_rfl)⟩
  rcases List.mem_cons.1 hs with rfl | hs
  · exact ⟨5, _, by omega, ro_t2_9 v, List.mem_of_getElem? (i := 4) (by kernel_rfl)⟩
  rcases List.mem_cons.1 hs with rfl | hs
  · exact ⟨6, _, by omega, ro_t2_10 v, List.mem_of_getElem? (i := 6) (by kernel_rfl)⟩
  rcases List.mem_cons.1 hs with rfl | hs
  · exact ⟨4, _, by omega, ro_t2_11 v, List.mem_of_getElem? (i := 3) (by kernel_rfl)⟩
  rcases List.mem_cons.1 hs with rfl | hs
  · exact ⟨5, _, by omega, ro_t2_12 v, List.mem_of_getElem? (i := 5) (by kernel_rfl)⟩
  rcases List.mem_cons.1 hs with rfl | hs
  · exact ⟨5, _, by omega, ro_t2_13 v, List.mem_of_getElem? (i := 6) (by kernel_rfl)⟩
  rcases List.mem_cons.1 hs with rfl | hs
  · exact ⟨3, _, by omega, ro_t2_14 v, List.mem_of_getElem? (i := 2) (by kernel_rfl)⟩
  rcases List.mem_cons.1 hs with rfl | hs
  · exact ⟨4, _, by omega, ro_t2_15 v, List.mem_of_getElem? (i := 4) (by kernel_rfl)⟩
  rcases List.mem_cons.1 hs with rfl | hs
  · exact ⟨4, _, by omega, ro_t2_16 v, List.mem_of_getElem? (i := 5) (by kernel_rfl)⟩
  rcases List.mem_cons.1 hs with rfl | hs
  · exact ⟨4, _, by omega, ro_t2_17 v, List.mem_of_getElem? (i := 6) (by kernel_rfl)⟩
  rcases List.mem_cons.1 hs with rfl | hs
  · exact ⟨2, _, by omega, ro_t2_18 v, List.mem_of_getElem? (i := 1) (by kernel_rfl)⟩
  rcases List.mem_cons.1 hs with rfl | hs
  · exact ⟨3, _, by omega, ro_t2_19 v, List.mem_of_getElem? (i := 3) (by kernel_rfl)⟩
  rcases List.mem_cons.1 hs with rfl | hs
  · exact ⟨3, _, by omega, ro_t2_20 v, List.mem_of_getElem? (i := 4) (by kernel_rfl)⟩
  rcases List.mem_cons.1 hs with rfl | hs
  · exact ⟨3, _, by omega, ro_t2_21 v, List.mem_of_getElem? (i := 5) (by kernel_rfl)⟩
  rcases List.mem_cons.1 hs with rfl | hs
  · exact ⟨3, _, by omega, ro_t2_22 v, List.mem_of_getElem? (i := 6) (by kernel_rfl)⟩
  rcases List.mem_cons.1 hs with rfl | hs
  · exact ⟨1, _, by omega, ro_t2_23 v, List.mem_of_getElem? (i := 0) (by kernel_rfl)⟩
  rcases List.mem_cons.1 hs with rfl | hs
  · exact ⟨2, _, by omega, ro_t2_24 v, List.mem_of_getElem? (i := 2) (by kernel_rfl)⟩
  rcases List.mem_cons.1 hs with rfl | hs
  · exact ⟨2, _, by omega, ro_t2_25 v, List.mem_of_getElem? (i := 3) (by kernel_rfl)⟩
  rcases List.mem_cons.1 hs with rfl | hs
  · exact ⟨2, _, by omega, ro_t2_26 v, List.mem_of_getElem? (i := 4) (by kernel_rfl)⟩
  rcases List.mem_cons.1 hs with rfl | hs
  · exact ⟨2, _, by omega, ro_t2_27 v, List.mem_of_getElem? (i := 5) (by kernel_rfl)⟩
  rcases List.mem_cons.1 hs with rfl | hs
  · exact ⟨2, _, by omega, ro_t2_28 v, List.mem_of_getElem? (i := 6) (by kernel_rfl)⟩
  rcases List.mem_cons.1 hs with rfl | hs
  · exact ⟨1, _, by omega, ro_t2_29 v, List.mem_of_getElem? (i := 0) (by kernel_rfl)⟩
  rcases List.mem_cons.1 hs with rfl | hs
  · exact ⟨1, _, by omega, ro_t2_30 v, List.mem_of_getElem? (i := 1) (by kernel_rfl)⟩
  rcases List.mem_cons.1 hs with rfl | hs
  · exact ⟨1, _, by omega, ro_t2_31 v, List.mem_of_getElem? (i := 2) (by kernel_rfl)⟩
  rcases List.mem_cons.1 hs with rfl | hs
  · exact ⟨1, _, by omega, ro_t2_32 v, List.mem_of_getElem? (i := 3) (by kernel_rfl)⟩
  rcases List.mem_cons.1 hs with rfl | hs
  · exact ⟨1, _, by omega, ro_t2_33 v, List.mem_of_getElem? (i := 4) (by kernel_rfl)⟩
  rcases List.mem_cons.1 hs with rfl | hs
  · exact ⟨1, _, by omega, ro_t2_34 v, List.mem_of_getElem? (i := 5) (by kernel_rfl)⟩
  rcases List.mem_cons.1 hs with rfl | hs
  · exact ⟨1, _, by omega, ro_t2_35 v, List.mem_of_getElem? (i := 6) (by kernel_rfl)⟩
  rcases List.mem_cons.1 hs with rfl | hs
  · exact ⟨0, _, by omega, ro_t2_36 v, List.mem_of_getElem? (i := 0) (by kernel_rfl)⟩
  rcases List.mem_cons.1 hs with rfl | hs
  · exact ⟨0, _, by omega, ro_t2_37 v, List.mem_of_getElem? (i := 1) (by kernel_rfl)⟩
  rcases List.mem_cons.1 hs with rfl | hs
  · exact ⟨0, _, by omega, ro_t2_38 v, List.mem_of_getElem? (i := 2) (by kernel_rfl)⟩
  rcases List.mem_cons.1 hs with rfl | hs
  · exact ⟨0, _, by omega, ro_t2_39 v, List.mem_of_getElem? (i := 3) (by kernel_rfl)⟩
  rcases List.mem_cons.1 hs with rfl | hs
  · exact ⟨0, _, by omega, ro_t2_40 v, List.mem_of_getElem? (i := 4) (by kernel_rfl)⟩
  rcases List.mem_cons.1 hs with rfl | hs
  · exact ⟨0, _, by omega, ro_t2_41 v, List.mem_of_getElem? (i := 5) (by kernel_rfl)⟩
  rcases List.mem_cons.1 hs with rfl | hs
  · exact ⟨0, _, by omega, ro_t2_42 v, List.mem_of_getElem? (i := 6) (by kernel_rfl)⟩
  exact absurd hs List.not_mem_nil
theorem top_f1 : boxTop FKf1 = FRf1 := by kernel_rfl
theorem lt_f1 : ∀ x, FKf1.contains x = true → x < FRf1 := fun x hx => by
  rw [← top_f1]; exact boxTop_lt (List.elem_iff.1 hx)
theorem fl_f1_0 (v : Int) : flatS FKf1 FRf1 (f1_0 v) = true := by kernel_rfl
theorem co_f1_0 (v : Int) : cores2 FKf1 (f1_0 v) 531 = true := by kernel_rfl
theorem fl_f1_1 (v : Int) : flatS FKf1 FRf1 (f1_1 v) = true := by kernel_rfl
theorem co_f1_1 (v : Int) : cores2 FKf1 (f1_1 v) 531 = true := by kernel_rfl
theorem fl_f1_2 (v : Int) : flatS FKf1 FRf1 (f1_2 v) = true := by kernel_rfl
theorem co_f1_2 (v : Int) : cores2 FKf1 (f1_2 v) 531 = true := by kernel_rfl
theorem fl_f1_3 (v : Int) : flatS FKf1 FRf1 (f1_3 v) = true := by kernel_rfl
theorem co_f1_3 (v : Int) : cores2 FKf1 (f1_3 v) 531 = true := by kernel_rfl
theorem fl_f1_4 (v : Int) : flatS FKf1 FRf1 (f1_4 v) = true := by kernel_rfl
theorem co_f1_4 (v : Int) : cores2 FKf1 (f1_4 v) 531 = true := by kernel_rfl
theorem fl_f1_5 (v : Int) : flatS FKf1 FRf1 (f1_5 v) = true := by kernel_rfl
theorem co_f1_5 (v : Int) : cores2 FKf1 (f1_5 v) 531 = true := by kernel_rfl
theorem fl_f1_6 (v : Int) : flatS FKf1 FRf1 (f1_6 v) = true := by kernel_rfl
theorem co_f1_6 (v : Int) : cores2 FKf1 (f1_6 v) 531 = true := by kernel_rfl
theorem fl_f1_7 (v : Int) : flatS FKf1 FRf1 (f1_7 v) = true := by kernel_rfl
theorem co_f1_7 (v : Int) : cores2 FKf1 (f1_7 v) 531 = true := by kernel_rfl
theorem fl_f1_8 (v : Int) : flatS FKf1 FRf1 (f1_8 v) = true := by kernel_rfl
theorem co_f1_8 (v : Int) : cores2 FKf1 (f1_8 v) 531 = true := by kernel_rfl
theorem fl_f1_9 (v : Int) : flatS FKf1 FRf1 (f1_9 v) = true := by kernel_rfl
theorem co_f1_9 (v : Int) : cores2 FKf1 (f1_9 v) 531 = true := by kernel_rfl
theorem fl_f1_10 (v : Int) : flatS FKf1 FRf1 (f1_10 v) = true := by kernel_rfl
theorem co_f1_10 (v : Int) : cores2 FKf1 (f1_10 v) 531 = true := by kernel_rfl
theorem fl_f1_11 (v : Int) : flatS FKf1 FRf1 (f1_11 v) = true := by kernel_rfl
theorem co_f1_11 (v : Int) : cores2 FKf1 (f1_11 v) 531 = true := by kernel_rfl
theorem fl_f1_12 (v : Int) : flatS FKf1 FRf1 (f1_12 v) = true := by kernel_rfl
theorem co_f1_12 (v : Int) : cores2 FKf1 (f1_12 v) 531 = true := by kernel_rfl
theorem fl_f1_13 (v : Int) : flatS FKf1 FRf1 (f1_13 v) = true := by kernel_rfl
theorem co_f1_13 (v : Int) : cores2 FKf1 (f1_13 v) 531 = true := by kernel_rfl
def all_f1 (v : Int) : List St := [f1_0 v, f1_1 v, f1_2 v, f1_3 v, f1_4 v, f1_5 v, f1_6 v, f1_7 v, f1_8 v, f1_9 v, f1_10 v, f1_11 v, f1_12 v, f1_13 v]
theorem in_f1_0 (v : Int) : f1_0 v ∈ all_f1 v := List.mem_of_getElem? (i := 0) (by kernel_rfl)
theorem in_f1_1 (v : Int) : f1_1 v ∈ all_f1 v := List.mem_of_getElem? (i := 1) (by kernel_rfl)
theorem in_f1_2 (v : Int) : f1_2 v ∈ all_f1 v := List.mem_of_getElem? (i := 2) (by kernel_rfl)
theorem in_f1_3 (v : Int) : f1_3 v ∈ all_f1 v := List.mem_of_getElem? (i := 3) (by kernel_rfl)
theorem in_f1_4 (v : Int) : f1_4 v ∈ all_f1 v := List.mem_of_getElem? (i := 4) (by kernel_rfl)
theorem in_f1_5 (v : Int) : f1_5 v ∈ all_f1 v := List.mem_of_getElem? (i := 5) (by kernel_rfl)
theorem in_f1_6 (v : Int) : f1_6 v ∈ all_f1 v := List.mem_of_getElem? (i := 6) (by kernel_rfl)
theorem in_f1_7 (v : Int) : f1_7 v ∈ all_f1 v := List.mem_of_getElem? (i := 7) (by kernel_rfl)
theorem in_f1_8 (v : Int) : f1_8 v ∈ all_f1 v := List.mem_of_getElem? (i := 8) (by kernel_rfl)
theorem in_f1_9 (v : Int) : f1_9 v ∈ all_f1 v := List.mem_of_getElem? (i := 9) (by kernel_rfl)
theorem in_f1_10 (v : Int) : f1_10 v ∈ all_f1 v := List.mem_of_getElem? (i := 10) (by kernel_rfl)
theorem in_f1_11 (v : Int) : f1_11 v ∈ all_f1 v := List.mem_of_getElem? (i := 11) (by kernel_rfl)
theorem in_f1_12 (v : Int) : f1_12 v ∈ all_f1 v := List.mem_of_getElem? (i := 12) (by kernel_rfl)
theorem in_f1_13 (v : Int) : f1_13 v ∈ all_f1 v := List.mem_of_getElem? (i := 13) (by kernel_rfl)
theorem closed_f1 (v : Int) : Closed kp FKf1 FRf1 fun s => s ∈ all_f1 v where
  ptr := ⟨531, 0, 0, 0, rfl⟩
  low := by kernel_rfl
  go := by
    intro s hs
    unfold all_f1 at hs
    rcases List.mem_cons.1 hs with rfl | hs
    · exact goes_all lt_f1 (e_f1_0_0 v) (e_f1_0_1 v) (co_f1_0 v) (fl_f1_0 v) (in_f1_0 v) (in_f1_1 v) (in_f1_0 v)
    rcases List.mem_cons.1 hs with rfl | hs
    · exact goes_all lt_f1 (e_f1_1_0 v) (e_f1_1_1 v) (co_f1_1 v) (fl_f1_1 v) (in_f1_1 v) (in_f1_2 v) (in_f1_1 v)
    rcases List.mem_cons.1 hs with rfl | hs
    · exact goes_all lt_f1 (e_f1_2_0 v) (e_f1_2_1 v) (co_f1_2 v) (fl_f1_2 v) (in_f1_2 v) (in_f1_3 v) (in_f1_2 v)
    rcases List.mem_cons.1 hs with rfl | hs
    · exact goes_all lt_f1 (e_f1_3_0 v) (e_f1_3_1 v) (co_f1_3 v) (fl_f1_3 v) (in_f1_3 v) (in_f1_4 v) (in_f1_3 v)
    rcases List.mem_cons.1 hs with rfl | hs
    · exact goes_all lt_f1 (e_f1_4_0 v) (e_f1_4_1 v) (co_f1_4 v) (fl_f1_4 v) (in_f1_4 v) (in_f1_5 v) (in_f1_4 v)
    rcases List.mem_cons.1 hs with rfl | hs
    · exact goes_all lt_f1 (e_f1_5_0 v) (e_f1_5_1 v) (co_f1_5 v) (fl_f1_5 v) (in_f1_5 v) (in_f1_6 v) (in_f1_5 v)
    rcases List.mem_cons.1 hs with rfl | hs
    · exact goes_all lt_f1 (e_f1_6_0 v) (e_f1_6_1 v) (co_f1_6 v) (fl_f1_6 v) (in_f1_6 v) (in_f1_7 v) (in_f1_6 v)
    rcases List.mem_cons.1 hs with rfl | hs
    · exact goes_all lt_f1 (e_f1_7_0 v) (e_f1_7_1 v) (co_f1_7 v) (fl_f1_7 v) (in_f1_7 v) (in_f1_8 v) (in_f1_7 v)
    rcases List.mem_cons.1 hs with rfl | hs
    · exact goes_all lt_f1 (e_f1_8_0 v) (e_f1_8_1 v) (co_f1_8 v) (fl_f1_8 v) (in_f1_8 v) (in_f1_9 v) (in_f1_8 v)
    rcases List.mem_cons.1 hs with rfl | hs
    · exact goes_all lt_f1 (e_f1_9_0 v) (e_f1_9_1 v) (co_f1_9 v) (fl_f1_9 v) (in_f1_9 v) (in_f1_10 v) (in_f1_9 v)
    rcases List.mem_cons.1 hs with rfl | hs
    · exact goes_all lt_f1 (e_f1_10_0 v) (e_f1_10_1 v) (co_f1_10 v) (fl_f1_10 v) (in_f1_10 v) (in_f1_11 v) (in_f1_10 v)
    rcases List.mem_cons.1 hs with rfl | hs
    · exact goes_all lt_f1 (e_f1_11_0 v) (e_f1_11_1 v) (co_f1_11 v) (fl_f1_11 v) (in_f1_11 v) (in_f1_12 v) (in_f1_11 v)
    rcases List.mem_cons.1 hs with rfl | hs
    · exact goes_all lt_f1 (e_f1_12_0 v) (e_f1_12_1 v) (co_f1_12 v) (fl_f1_12 v) (in_f1_12 v) (in_f1_13 v) (in_f1_12 v)
    rcases List.mem_cons.1 hs with rfl | hs
    · exact goes_all lt_f1 (e_f1_13_0 v) (e_f1_13_1 v) (co_f1_13 v) (fl_f1_13 v) (in_f1_13 v) (in_f1_13 v) (in_f1_13 v)
    exact absurd hs List.not_mem_nil
theorem ro_f1_13 (v : Int) : Rounds kp FKf1 FRf1 (f1_13 v) 0 (f1_13 v) := .stop (nxt_goes (e_f1_13_0 v) lt_f1) (nxt_goes (e_f1_13_1 v) lt_f1)
theorem ro_f1_12 (v : Int) : Rounds kp FKf1 FRf1 (f1_12 v) 1 (f1_13 v) := .more (nxt_goes (e_f1_12_0 v) lt_f1) (nxt_goes (e_f1_13_1 v) lt_f1) rfl (ro_f1_13 v)
theorem ro_f1_11 (v : Int) : Rounds kp FKf1 FRf1 (f1_11 v) 2 (f1_13 v) := .more (nxt_goes (e_f1_11_0 v) lt_f1) (nxt_goes (e_f1_12_1 v) lt_f1) rfl (ro_f1_12 v)
theorem ro_f1_10 (v : Int) : Rounds kp FKf1 FRf1 (f1_10 v) 3 (f1_13 v) := .more (nxt_goes (e_f1_10_0 v) lt_f1) (nxt_goes (e_f1_11_1 v) lt_f1) rfl (ro_f1_11 v)
theorem ro_f1_9 (v : Int) : Rounds kp FKf1 FRf1 (f1_9 v) 4 (f1_13 v) := .more (nxt_goes (e_f1_9_0 v) lt_f1) (nxt_goes (e_f1_10_1 v) lt_f1) rfl (ro_f1_10 v)
theorem ro_f1_8 (v : Int) : Rounds kp FKf1 FRf1 (f1_8 v) 5 (f1_13 v) := .more (nxt_goes (e_f1_8_0 v) lt_f1) (nxt_goes (e_f1_9_1 v) lt_f1) rfl (ro_f1_9 v)
theorem ro_f1_7 (v : Int) : Rounds kp FKf1 FRf1 (f1_7 v) 6 (f1_13 v) := .more (nxt_goes (e_f1_7_0 v) lt_f1) (nxt_goes (e_f1_8_1 v) lt_f1) rfl (ro_f1_8 v)
theorem ro_f1_6 (v : Int) : Rounds kp FKf1 FRf1 (f1_6 v) 7 (f1_13 v) := .more (nxt_goes (e_f1_6_0 v) lt_f1) (nxt_goes (e_f1_7_1 v) lt_f1) rfl (ro_f1_7 v)
theorem ro_f1_5 (v : Int) : Rounds kp FKf1 FRf1 (f1_5 v) 8 (f1_13 v) := .more (nxt_goes (e_f1_5_0 v) lt_f1) (nxt_goes (e_f1_6_1 v) lt_f1) rfl (ro_f1_6 v)
theorem ro_f1_4 (v : Int) : Rounds kp FKf1 FRf1 (f1_4 v) 9 (f1_13 v) := .more (nxt_goes (e_f1_4_0 v) lt_f1) (nxt_goes (e_f1_5_1 v) lt_f1) rfl (ro_f1_5 v)
theorem ro_f1_3 (v : Int) : Rounds kp FKf1 FRf1 (f1_3 v) 10 (f1_13 v) := .more (nxt_goes (e_f1_3_0 v) lt_f1) (nxt_goes (e_f1_4_1 v) lt_f1) rfl (ro_f1_4 v)
theorem ro_f1_2 (v : Int) : Rounds kp FKf1 FRf1 (f1_2 v) 11 (f1_13 v) := .more (nxt_goes (e_f1_2_0 v) lt_f1) (nxt_goes (e_f1_3_1 v) lt_f1) rfl (ro_f1_3 v)
theorem ro_f1_1 (v : Int) : Rounds kp FKf1 FRf1 (f1_1 v) 12 (f1_13 v) := .more (nxt_goes (e_f1_1_0 v) lt_f1) (nxt_goes (e_f1_2_1 v) lt_f1) rfl (ro_f1_2 v)
theorem ro_f1_0 (v : Int) : Rounds kp FKf1 FRf1 (f1_0 v) 13 (f1_13 v) := .more (nxt_goes (e_f1_0_0 v) lt_f1) (nxt_goes (e_f1_1_1 v) lt_f1) rfl (ro_f1_1 v)
def fin_f1 (v : Int) : List St := [f1_13 v]
theorem rounds_f1 (v : Int) : ∀ s ∈ all_f1 v, ∃ m s', m < 60000 ∧ Rounds kp FKf1 FRf1 s m s' ∧ s' ∈ fin_f1 v := by
  intro s hs
  unfold all_f1 at hs
  rcases List.mem_cons.1 hs with rfl | hs
  · exact ⟨13, _, by omega, ro_f1_0 v, List.mem_of_getElem? (i := 0) (by kernel_rfl)⟩
  rcases List.mem_cons.1 hs with rfl | hs
  · exact ⟨12, _, by omega, ro_f1_1 v, List.mem_of_getElem? (i := 0) (by kernel_rfl)⟩
  rcases List.mem_cons.1 hs with rfl | hs
  · exact ⟨11, _, by omega, ro_f1_2 v, List.mem_of_getElem? (i := 0) (by kernel_rfl)⟩
  rcases List.mem_cons.1 hs with rfl | hs
  · exact ⟨10, _, by omega, ro_f1_3 v, List.mem_of_getElem? (i := 0) (by kernel_rfl)⟩
  rcases List.mem_cons.1 hs with rfl | hs
  · exact ⟨9, _, by omega, ro_f1_4 v, List.mem_of_getElem? (i := 0) (by kernel_rfl)⟩
  rcases List.mem_cons.1 hs with rfl | hs
  · exact ⟨8, _, by omega, ro_f1_5 v, List.mem_of_getElem? (i := 0) (by kernel_rfl)⟩
  rcases List.mem_cons.1 hs with rfl | hs
  · exact ⟨7, _, by omega, ro_f1_6 v, List.mem_of_getElem? (i := 0) (by kernel_rfl)⟩
  rcases List.mem_cons.1 hs with rfl | hs
  · exact ⟨6, _, by omega, ro_f1_7 v, List.mem_of_getElem? (i := 0) (by kernel_rfl)⟩
  rcases List.mem_cons.1 hs with rfl | hs
  · exact ⟨5, _, by omega, ro_f1_8 v, List.mem_of_getElem? (i := 0) (by kernel_rfl)⟩
  rcases List.mem_cons.1 hs with rfl | hs
  · exact ⟨4, _, by omega, ro_f1_9 v, List.mem_of_getElem? (i := 0) (by kernel_rfl)⟩
  rcases List.mem_cons.1 hs with rfl | hs
  · exact ⟨3, _, by omega, ro_f1_10 v, List.mem_of_getElem? (i := 0) (by kernel_rfl)⟩
  rcases List.mem_cons.1 hs with rfl | hs
  · exact ⟨2, _, by omega, ro_f1_11 v, List.mem_of_getElem? (i := 0) (by kernel_rfl)⟩
  rcases List.mem_cons.1 hs with rfl | hs
  · exact ⟨1, _, by omega, ro_f1_12 v, List.mem_of_getElem? (i := 0) (by kernel_rfl)⟩
  rcases List.mem_cons.1 hs with rfl | hs
  · exact ⟨0, _, by omega, ro_f1_13 v, List.mem_of_getElem? (i := 0) (by kernel_rfl)⟩
  exact absurd hs List.not_mem_nil
theorem top_f2 : boxTop FKf2 = FRf2 := by kernel_rfl
theorem lt_f2 : ∀ x, FKf2.contains x = true → x < FRf2 := fun x hx => by
  rw [← top_f2]; exact boxTop_lt (List.elem_iff.1 hx)
theorem fl_f2_0 (v : Int) : flatS FKf2 FRf2 (f2_0 v) = true := by kernel_rfl
theorem co_f2_0 (v : Int) : cores2 FKf2 (f2_0 v) 531 = true := by kernel_rfl
theorem fl_f2_1 (v : Int) : flatS FKf2 FRf2 (f2_1 v) = true := by kernel_rfl
theorem co_f2_1 (v : Int) : cores2 FKf2 (f2_1 v) 531 = true := by kernel_rfl
theorem fl_f2_2 (v : Int) : flatS FKf2 FRf2 (f2_2 v) = true := by kernel_rfl
theorem co_f2_2 (v : Int) : cores2 FKf2 (f2_2 v) 531 = true := by kernel_rfl
theorem fl_f2_3 (v : Int) : flatS FKf2 FRf2 (f2_3 v) = true := by kernel_rfl
theorem co_f2_3 (v : Int) : cores2 FKf2 (f2_3 v) 531 = true := by kernel_rfl
theorem fl_f2_4 (v : Int) : flatS FKf2 FRf2 (f2_4 v) = true := by kernel_rfl
theorem co_f2_4 (v : Int) : cores2 FKf2 (f2_4 v) 531 = true := by kernel_rfl
theorem fl_f2_5 (v : Int) : flatS FKf2 FRf2 (f2_5 v) = true := by kernel_rfl
theorem co_f2_5 (v : Int) : cores2 FKf2 (f2_5 v) 531 = true := by kernel_rfl
theorem fl_f2_6 (v : Int) : flatS FKf2 FRf2 (f2_6 v) = true := by kernel_rfl
theorem co_f2_6 (v : Int) : cores2 FKf2 (f2_6 v) 531 = true := by kernel_rfl
theorem fl_f2_7 (v : Int) : flatS FKf2 FRf2 (f2_7 v) = true := by kernel_rfl
theorem co_f2_7 (v : Int) : cores2 FKf2 (f2_7 v) 531 = true := by kernel_rfl
theorem fl_f2_8 (v : Int) : flatS FKf2 FRf2 (f2_8 v) = true := by kernel_rfl
theorem co_f2_8 (v : Int) : cores2 FKf2 (f2_8 v) 531 = true := by kernel_rfl
theorem fl_f2_9 (v : Int) : flatS FKf2 FRf2 (f2_9 v) = true := by kernel_rfl
theorem co_f2_9 (v : Int) : cores2 FKf2 (f2_9 v) 531 = true := by kernel_rfl
theorem fl_f2_10 (v : Int) : flatS FKf2 FRf2 (f2_10 v) = true := by kernel_rfl
theorem co_f2_10 (v : Int) : cores2 FKf2 (f2_10 v) 531 = true := by kernel_rfl
theorem fl_f2_11 (v : Int) : flatS FKf2 FRf2 (f2_11 v) = true := by kernel_rfl
theorem co_f2_11 (v : Int) : cores2 FKf2 (f2_11 v) 531 = true := by kernel_rfl
theorem fl_f2_12 (v : Int) : flatS FKf2 FRf2 (f2_12 v) = true := by kernel_rfl
theorem co_f2_12 (v : Int) : cores2 FKf2 (f2_12 v) 531 = true := by kernel_rfl
theorem fl_f2_13 (v : Int) : flatS FKf2 FRf2 (f2_13 v) = true := by kernel_rfl
theorem co_f2_13 (v : Int) : cores2 FKf2 (f2_13 v) 531 = true := by kernel_rfl
theorem fl_f2_14 (v : Int) : flatS FKf2 FRf2 (f2_14 v) = true := by kernel_rfl
theorem co_f2_14 (v : Int) : cores2 FKf2 (f2_14 v) 531 = true := by kernel_rfl
theorem fl_f2_15 (v : Int) : flatS FKf2 FRf2 (f2_15 v) = true := by kernel_rfl
theorem co_f2_15 (v : Int) : cores2 FKf2 (f2_15 v) 531 = true := by kernel_rfl
theorem fl_f2_16 (v : Int) : flatS FKf2 FRf2 (f2_16 v) = true := by kernel_rfl
theorem co_f2_16 (v : Int) : cores2 FKf2 (f2_16 v) 531 = true := by kernel_rfl
theorem fl_f2_17 (v : Int) : flatS FKf2 FRf2 (f2_17 v) = true := by kernel_rfl
theorem co_f2_17 (v : Int) : cores2 FKf2 (f2_17 v) 531 = true := by kernel_rfl
theorem fl_f2_18 (v : Int) : flatS FKf2 FRf2 (f2_18 v) = true := by kernel_rfl
theorem co_f2_18 (v : Int) : cores2 FKf2 (f2_18 v) 531 = true := by kernel_rfl
theorem fl_f2_19 (v : Int) : flatS FKf2 FRf2 (f2_19 v) = true := by kernel_rfl
theorem co_f2_19 (v : Int) : cores2 FKf2 (f2_19 v) 531 = true := by kernel_rfl
theorem fl_f2_20 (v : Int) : flatS FKf2 FRf2 (f2_20 v) = true := by kernel_rfl
theorem co_f2_20 (v : Int) : cores2 FKf2 (f2_20 v) 531 = true := by kernel_rfl
theorem fl_f2_21 (v : Int) : flatS FKf2 FRf2 (f2_21 v) = true := by kernel_rfl
theorem co_f2_21 (v : Int) : cores2 FKf2 (f2_21 v) 531 = true := by kernel_rfl
theorem fl_f2_22 (v : Int) : flatS FKf2 FRf2 (f2_22 v) = true := by kernel_rfl
theorem co_f2_22 (v : Int) : cores2 FKf2 (f2_22 v) 531 = true := by kernel_rfl
theorem fl_f2_23 (v : Int) : flatS FKf2 FRf2 (f2_23 v) = true := by kernel_rfl
theorem co_f2_23 (v : Int) : cores2 FKf2 (f2_23 v) 531 = true := by kernel_rfl
theorem fl_f2_24 (v : Int) : flatS FKf2 FRf2 (f2_24 v) = true := by kernel_rfl
theorem co_f2_24 (v : Int) : cores2 FKf2 (f2_24 v) 531 = true := by kernel_rfl
theorem fl_f2_25 (v : Int) : flatS FKf2 FRf2 (f2_25 v) = true := by kernel_rfl
theorem co_f2_25 (v : Int) : cores2 FKf2 (f2_25 v) 531 = true := by kernel_rfl
theorem fl_f2_26 (v : Int) : flatS FKf2 FRf2 (f2_26 v) = true := by kernel_rfl
theorem co_f2_26 (v : Int) : cores2 FKf2 (f2_26 v) 531 = true := by kernel_rfl
theorem fl_f2_27 (v : Int) : flatS FKf2 FRf2 (f2_27 v) = true := by kernel_rfl
theorem co_f2_27 (v : Int) : cores2 FKf2 (f2_27 v) 531 = true := by kernel_rfl
theorem fl_f2_28 (v : Int) : flatS FKf2 FRf2 (f2_28 v) = true := by kernel_rfl
theorem co_f2_28 (v : Int) : cores2 FKf2 (f2_28 v) 531 = true := by kernel_rfl
theorem fl_f2_29 (v : Int) : flatS FKf2 FRf2 (f2_29 v) = true := by kernel_rfl
theorem co_f2_29 (v : Int) : cores2 FKf2 (f2_29 v) 531 = true := by kernel_rfl
theorem fl_f2_30 (v : Int) : flatS FKf2 FRf2 (f2_30 v) = true := by kernel_rfl
theorem co_f2_30 (v : Int) : cores2 FKf2 (f2_30 v) 531 = true := by kernel_rfl
theorem fl_f2_31 (v : Int) : flatS FKf2 FRf2 (f2_31 v) = true := by kernel_rfl
theorem co_f2_31 (v : Int) : cores2 FKf2 (f2_31 v) 531 = true := by kernel_rfl
theorem fl_f2_32 (v : Int) : flatS FKf2 FRf2 (f2_32 v) = true := by kernel_rfl
theorem co_f2_32 (v : Int) : cores2 FKf2 (f2_32 v) 531 = true := by kernel_rfl
theorem fl_f2_33 (v : Int) : flatS FKf2 FRf2 (f2_33 v) = true := by kernel_rfl
theorem co_f2_33 (v : Int) : cores2 FKf2 (f2_33 v) 531 = true := by kernel_rfl
def all_f2 (v : Int) : List St := [f2_0 v, f2_1 v, f2_2 v, f2_3 v, f2_4 v, f2_5 v, f2_6 v, f2_7 v, f2_8 v, f2_9 v, f2_10 v, f2_11 v, f2_12 v, f2_13 v, f2_14 v, f2_15 v, f2_16 v, f2_17 v, f2_18 v, f2_19 v, f2_20 v, f2_21 v, f2_22 v, f2_23 v, f2_24 v, f2_25 v, f2_26 v, f2_27 v, f2_28 v, f2_29 v, f2_30 v, f2_31 v, f2_32 v, f2_33 v]
theorem in_f2_0 (v : Int) : f2_0 v ∈ all_f2 v := List.mem_of_getElem? (i := 0) (by kernel_rfl)
theorem in_f2_1 (v : Int) : f2_1 v ∈ all_f2 v := List.mem_of_getElem? (i := 1) (by kernel_rfl)
theorem in_f2_2 (v : Int) : f2_2 v ∈ all_f2 v := List.mem_of_getElem? (i := 2) (by kernel_rfl)
theorem in_f2_3 (v : Int) : f2_3 v ∈ all_f2 v := List.mem_of_getElem? (i := 3) (by kernel_rfl)
theorem in_f2_4 (v : Int) : f2_4 v ∈ all_f2 v := List.mem_of_getElem? (i := 4) (by kernel_rfl)
theorem in_f2_5 (v : Int) : f2_5 v ∈ all_f2 v := List.mem_of_getElem? (i := 5) (by kernel_rfl)
theorem in_f2_6 (v : Int) : f2_6 v ∈ all_f2 v := List.mem_of_getElem? (i := 6) (by kernel_rfl)
theorem in_f2_7 (v : Int) : f2_7 v ∈ all_f2 v := List.mem_of_getElem? (i := 7) (by kernel_rfl)
theorem in_f2_8 (v : Int) : f2_8 v ∈ all_f2 v := List.mem_of_getElem? (i := 8) (by kernel_rfl)
theorem in_f2_9 (v : Int) : f2_9 v ∈ all_f2 v := List.mem_of_getElem? (i := 9) (by kernel_rfl)
theorem in_f2_10 (v : Int) : f2_10 v ∈ all_f2 v := List.mem_of_getElem? (i := 10) (by kernel_rfl)
theorem in_f2_11 (v : Int) : f2_11 v ∈ all_f2 v := List.mem_of_getElem? (i := 11) (by kernel_rfl)
theorem in_f2_12 (v : Int) : f2_12 v ∈ all_f2 v := List.mem_of_getElem? (i := 12) (by kernel_rfl)
theorem in_f2_13 (v : Int) : f2_13 v ∈ all_f2 v := List.mem_of_getElem? (i := 13) (by kernel_rfl)
theorem in_f2_14 (v : Int) : f2_14 v ∈ all_f2 v := List.mem_of_getElem? (i := 14) (by kernel_rfl)
theorem in_f2_15 (v : Int) : f2_15 v ∈ all_f2 v := List.mem_of_getElem? (i := 15) (by kernel_rfl)
theorem in_f2_16 (v : Int) : f2_16 v ∈ all_f2 v := List.mem_of_getElem? (i := 16) (by kernel_rfl)
theorem in_f2_17 (v : Int) : f2_17 v ∈ all_f2 v := List.mem_of_getElem? (i := 17) (by kernel_rfl)
theorem in_f2_18 (v : Int) : f2_18 v ∈ all_f2 v := List.mem_of_getElem? (i := 18) (by kernel_rfl)
theorem in_f2_19 (v : Int) : f2_19 v ∈ all_f2 v := List.mem_of_getElem? (i := 19) (by kernel_rfl)
theorem in_f2_20 (v : Int) : f2_20 v ∈ all_f2 v := List.mem_of_getElem? (i := 20) (by kernel_rfl)
theorem in_f2_21 (v : Int) : f2_21 v ∈ all_f2 v := List.mem_of_getElem? (i := 21) (by kernel_rfl)
theorem in_f2_22 (v : Int) : f2_22 v ∈ all_f2 v := List.mem_of_getElem? (i := 22) (by kernel_rfl)
theorem in_f2_23 (v : Int) : f2_23 v ∈ all_f2 v := List.mem_of_getElem? (i := 23) (by kernel_rfl)
theorem in_f2_24 (v : Int) : f2_24 v ∈ all_f2 v := List.mem_of_getElem? (i := 24) (by kernel_rfl)
theorem in_f2_25 (v : Int) : f2_25 v ∈ all_f2 v := List.mem_of_getElem? (i := 25) (by kernel_rfl)
theorem in_f2_26 (v : Int) : f2_26 v ∈ all_f2 v := List.mem_of_getElem? (i := 26) (by kernel_rfl)
theorem in_f2_27 (v : Int) : f2_27 v ∈ all_f2 v := List.mem_of_getElem? (i := 27) (by kernel_rfl)
theorem in_f2_28 (v : Int) : f2_28 v ∈ all_f2 v := List.mem_of_getElem? (i := 28) (by kernel_rfl)
theorem in_f2_29 (v : Int) : f2_29 v ∈ all_f2 v := List.mem_of_getElem? (i := 29) (by kernel_rfl)
theorem in_f2_30 (v : Int) : f2_30 v ∈ all_f2 v := List.mem_of_getElem? (i := 30) (by kernel_rfl)
theorem in_f2_31 (v : Int) : f2_31 v ∈ all_f2 v := List.mem_of_getElem? (i := 31) (by kernel_rfl)
theorem in_f2_32 (v : Int) : f2_32 v ∈ all_f2 v := List.mem_of_getElem? (i := 32) (by kernel_rfl)
theorem in_f2_33 (v : Int) : f2_33 v ∈ all_f2 v := List.mem_of_getElem? (i := 33) (by kernel_rfl)
theorem closed_f2 (v : Int) : Closed kp FKf2 FRf2 fun s => s ∈ all_f2 v where
  ptr := ⟨531, 0, 0, 0, rfl⟩
  low := by kernel_rfl
  go := by
    intro s hs
    unfold all_f2 at hs
    rcases List.mem_cons.1 hs with rfl | hs
    · exact goes_all lt_f2 (e_f2_0_0 v) (e_f2_0_1 v) (co_f2_0 v) (fl_f2_0 v) (in_f2_0 v) (in_f2_0 v) (in_f2_1 v)
    rcases List.mem_cons.1 hs with rfl | hs
    · exact goes_all lt_f2 (e_f2_1_0 v) (e_f2_1_1 v) (co_f2_1 v) (fl_f2_1 v) (in_f2_1 v) (in_f2_1 v) (in_f2_2 v)
    rcases List.mem_cons.1 hs with rfl | hs
    · exact goes_all lt_f2 (e_f2_2_0 v) (e_f2_2_1 v) (co_f2_2 v) (fl_f2_2 v) (in_f2_2 v) (in_f2_2 v) (in_f2_3 v)
    rcases List.mem_cons.1 hs with rfl | hs
    · exact goes_all lt_f2 (e_f2_3_0 v) (e_f2_3_1 v) (co_f2_3 v) (fl_f2_3 v) (in_f2_3 v) (in_f2_3 v) (in_f2_4 v)
    rcases List.mem_cons.1 hs with rfl | hs
    · exact goes_all lt_f2 (e_f2_4_0 v) (e_f2_4_1 v) (co_f2_4 v) (fl_f2_4 v) (in_f2_4 v) (in_f2_4 v) (in_f2_5 v)
    rcases List.mem_cons.1 hs with rfl | hs
    · exact goes_all lt_f2 (e_f2_5_0 v) (e_f2_5_1 v) (co_f2_5 v) (fl_f2_5 v) (in_f2_5 v) (in_f2_5 v) (in_f2_6 v)
    rcases List.mem_cons.1 hs with rfl | hs
    · exact goes_all lt_f2 (e_f2_6_0 v) (e_f2_6_1 v) (co_f2_6 v) (fl_f2_6 v) (in_f2_6 v) (in_f2_6 v) (in_f2_7 v)
    rcases List.mem_cons.1 hs with rfl | hs
    · exact goes_all lt_f2 (e_f2_7_0 v) (e_f2_7_1 v) (co_f2_7 v) (fl_f2_7 v) (in_f2_7 v) (in_f2_8 v) (in_f2_9 v)
    rcases List.mem_cons.1 hs with rfl | hs
    · exact goes_all lt_f2 (e_f2_8_0 v) (e_f2_8_1 v) (co_f2_8 v) (fl_f2_8 v) (in_f2_8 v) (in_f2_8 v) (in_f2_10 v)
    rcases List.mem_cons.1 hs with rfl | hs
    · exact goes_all lt_f2 (e_f2_9_0 v) (e_f2_9_1 v) (co_f2_9 v) (fl_f2_9 v) (in_f2_9 v) (in_f2_11 v) (in_f2_12 v)
    rcases List.mem_cons.1 hs with rfl | hs
    · exact goes_all lt_f2 (e_f2_10_0 v) (e_f2_10_1 v) (co_f2_10 v) (fl_f2_10 v) (in_f2_10 v) (in_f2_10 v) (in_f2_13 v)
    rcases List.mem_cons.1 hs with rfl | hs
    · exact goes_all lt_f2 (e_f2_11_0 v) (e_f2_11_1 v) (co_f2_11 v) (fl_f2_11 v) (in_f2_11 v) (in_f2_11 v) (in_f2_14 v)
    rcases List.mem_cons.1 hs with rfl | hs
    · exact goes_all lt_f2 (e_f2_12_0 v) (e_f2_12_1 v) (co_f2_12 v) (fl_f2_12 v) (in_f2_12 v) (in_f2_15 v) (in_f2_16 v)
    rcases List.mem_cons.1 hs with rfl | hs
    · exact goes_all lt_f2 (e_f2_13_0 v) (e_f2_13_1 v) (co_f2_13 v) (fl_f2_13 v) (in_f2_13 v) (in_f2_13 v) (in_f2_17 v)
    rcases List.mem_cons.1 hs with rfl | hs
    · exact goes_all lt_f2 (e_f2_14_0 v) (e_f2_14_1 v) (co_f2_14 v) (fl_f2_14 v) (in_f2_14 v) (in_f2_14 v) (in_f2_18 v)
    rcases List.mem_cons.1 hs with rfl | hs
    · exact goes_all lt_f2 (e_f2_15_0 v) (e_f2_15_1 v) (co_f2_15 v) (fl_f2_15 v) (in_f2_15 v) (in_f2_15 v) (in_f2_19 v)
    rcases List.mem_cons.1 hs with rfl | hs
    · exact goes_all lt_f2 (e_f2_16_0 v) (e_f2_16_1 v) (co_f2_16 v) (fl_f2_16 v) (in_f2_16 v) (in_f2_20 v) (in_f2_21 v)
    rcases List.mem_cons.1 hs with rfl | hs
    · exact goes_all lt_f2 (e_f2_17_0 v) (e_f2_17_1 v) (co_f2_17 v) (fl_f2_17 v) (in_f2_17 v) (in_f2_17 v) (in_f2_22 v)
    rcases List.mem_cons.1 hs with rfl | hs
    · exact goes_all lt_f2 (e_f2_18_0 v) (e_f2_18_1 v) (co_f2_18 v) (fl_f2_18 v) (in_f2_18 v) (in_f2_18 v) (in_f2_23 v)
    rcases List.mem_cons.1 hs with rfl | hs
    · exact goes_all lt_f2 (e_f2_19_0 v) (e_f2_19_1 v) (co_f2_19 v) (fl_f2_19 v) (in_f2_19 v) (in_f2_19 v) (in_f2_24 v)
    rcases List.mem_cons.1 hs with rfl | hs
    · exact goes_all lt_f2 (e_f2_20_0 v) (e_f2_20_1 v) (co_f2_20 v) (fl_f2_20 v) (in_f2_20 v) (in_f2_20 v) (in_f2_25 v)
    rcases List.mem_cons.1 hs with rfl | hs
    · exact goes_all lt_f2 (e_f2_21_0 v) (e_f2_21_1 v) (co_f2_21 v) (fl_f2_21 v) (in_f2_21 v) (in_f2_26 v) (in_f2_27 v)
    rcases List.mem_cons.1 hs with rfl | hs
    · exact goes_all lt_f2 (e_f2_22_0 v) (e_f2_22_1 v) (co_f2_22 v) (fl_f2_22 v) (in_f2_22 v) (in_f2_22 v) (in_f2_28 v)
    rcases List.mem_cons.1 hs with rfl | hs
    · exact goes_all lt_f2 (e_f2_23_0 v) (e_f2_23_1 v) (co_f2_23 v) (fl_f2_23 v) (in_f2_23 v) (in_f2_23 v) (in_f2_29 v)
    rcases List.mem_cons.1 hs with rfl | hs
    · exact goes_all lt_f2 (e_f2_24_0 v) (e_f2_24_1 v) (co_f2_24 v) (fl_f2_24 v) (in_f2_24 v) (in_f2_24 v) (in_f2_30 v)
    rcases List.mem_cons.1 hs with rfl | hs
    · exact goes_all lt_f2 (e_f2_25_0 v) (e_f2_25_1 v) (co_f2_25 v) (fl_f2_25 v) (in_f2_25 v) (in_f2_25 v) (in_f2_31 v)
    rcases List.mem_cons.1 hs with rfl | hs
    · exact goes_all lt_f2 (e_f2_26_0 v) (e_f2_26_1 v) (co_f2_26 v) (fl_f2_26 v) (in_f2_26 v) (in_f2_26 v) (in_f2_32 v)
    rcases List.mem_cons.1 hs with rfl | hs
    · exact goes_all lt_f2 (e_f2_27_0 v) (e_f2_27_1 v) (co_f2_27 v) (fl_f2_27 v) (in_f2_27 v) (in_f2_33 v) (in_f2_27 v)
    rcases List.mem_cons.1 hs with rfl | hs
    · exact goes_all lt_f2 (e_f2_28_0 v) (e_f2_28_1 v) (co_f2_28 v) (fl_f2_28 v) (in_f2_28 v) (in_f2_28 v) (in_f2_28 v)
    rcases List.mem_cons.1 hs with rfl | hs
    · exact goes_all lt_f2 (e_f2_29_0 v) (e_f2_29_1 v) (co_f2_29 v) (fl_f2_29 v) (in_f2_29 v) (in_f2_29 v) (in_f2_29 v)
    rcases List.mem_cons.1 hs with rfl | hs
    · exact goes_all lt_f2 (e_f2_30_0 v) (e_f2_30_1 v) (co_f2_30 v) (fl_f2_30 v) (in_f2_30 v) (in_f2_30 v) (in_f2_30 v)
    rcases List.mem_cons.1 hs with rfl | hs
    · exact goes_all lt_f2 (e_f2_31_0 v) (e_f2_31_1 v) (co_f2_31 v) (fl_f2_31 v) (in_f2_31 v) (in_f2_31 v) (in_f2_31 v)
    rcases List.mem_cons.1 hs with rfl | hs
    · exact goes_all lt_f2 (e_f2_32_0 v) (e_f2_32_1 v) (co_f2_32 v) (fl_f2_32 v) (in_f2_32 v) (in_f2_32 v) (in_f2_32 v)
    rcases List.mem_cons.1 hs with rfl | hs
    · exact goes_all lt_f2 (e_f2_33_0 v) (e_f2_33_1 v) (co_f2_33 v) (fl_f2_33 v) (in_f2_33 v) (in_f2_33 v) (in_f2_33 v)
    exact absurd hs List.not_mem_nil
theorem ro_f2_33 (v : Int) : Rounds kp FKf2 FRf2 (f2_33 v) 0 (f2_33 v) := .stop (nxt_goes (e_f2_33_0 v) lt_f2) (nxt_goes (e_f2_33_1 v) lt_f2)
theorem ro_f2_32 (v : Int) : Rounds kp FKf2 FRf2 (f2_32 v) 0 (f2_32 v) := .stop (nxt_goes (e_f2_32_0 v) lt_f2) (nxt_goes (e_f2_32_1 v) lt_f2)
theorem ro_f2_31 (v : Int) : Rounds kp FKf2 FRf2 (f2_31 v) 0 (f2_31 v) := .stop (nxt_goes (e_f2_31_0 v) lt_f2) (nxt_goes (e_f2_31_1 v) lt_f2)
theorem ro_f2_30 (v : Int) : Rounds kp FKf2 FRf2 (f2_30 v) 0 (f2_30 v) := .stop (nxt_goes (e_f2_30_0 v) lt_f2) (nxt_goes (e_f2_30_1 v) lt_f2)
theorem ro_f2_29 (v : Int) : Rounds kp FKf2 FRf2 (f2_29 v) 0 (f2_29 v) := .stop (nxt_goes (e_f2_29_0 v) lt_f2) (nxt_goes (e_f2_29_1 v) lt_f2)
theorem ro_f2_28 (v : Int) : Rounds kp FKf2 FRf2 (f2_28 v) 0 (f2_28 v) := .stop (nxt_goes (e_f2_28_0 v) lt_f2) (nxt_goes (e_f2_28_1 v) lt_f2)
theorem ro_f2_27 (v : Int) : Rounds kp FKf2 FRf2 (f2_27 v) 1 (f2_33 v) := .more (nxt_goes (e_f2_27_0 v) lt_f2) (nxt_goes (e_f2_33_1 v) lt_f2) rfl (ro_f2_33 v)
theorem ro_f2_26 (v : Int) : Rounds kp FKf2 FRf2 (f2_26 v) 1 (f2_32 v) := .more (nxt_goes (e_f2_26_0 v) lt_f2) (nxt_goes (e_f2_26_1 v) lt_f2) rfl (ro_f2_32 v)
theorem ro_f2_25 (v : Int) : Rounds kp FKf2 FRf2 (f2_25 v) 1 (f2_31 v) := .more (nxt_goes (e_f2_25_0 v) lt_f2) (nxt_goes (e_f2_25_1 v) lt_f2) rfl (ro_f2_31 v)
theorem ro_f2_24 (v : Int) : Rounds kp FKf2 FRf2 (f2_24 v) 1 (f2_30 v) := .more (nxt_goes (e_f2_24_0 v) lt_f2) (nxt_goes (e_f2_24_1 v) lt_f2) rfl (ro_f2_30 v)
theorem ro_f2_23 (v : Int) : Rounds kp FKf2 FRf2 (f2_23 v) 1 (f2_29 v) := .more (nxt_goes (e_f2_23_0 v) lt_f2) (nxt_goes (e_f2_23_1 v) lt_f2) rfl (ro_f2_29 v)
theorem ro_f2_22 (v : Int) : Rounds kp FKf2 FRf2 (f2_22 v) 1 (f2_28 v) := .more (nxt_goes (e_f2_22_0 v) lt_f2) (nxt_goes (e_f2_22_1 v) lt_f2) rfl (ro_f2_28 v)
theorem ro_f2_21 (v : Int) : Rounds kp FKf2 FRf2 (f2_21 v) 1 (f2_32 v) := .more (nxt_goes (e_f2_21_0 v) lt_f2) (nxt_goes (e_f2_26_1 v) lt_f2) rfl (ro_f2_32 v)
theorem ro_f2_20 (v : Int) : Rounds kp FKf2 FRf2 (f2_20 v) 2 (f2_31 v) := .more (nxt_goes (e_f2_20_0 v) lt_f2) (nxt_goes (e_f2_20_1 v) lt_f2) rfl (ro_f2_25 v)
theorem ro_f2_19 (v : Int) : Rounds kp FKf2 FRf2 (f2_19 v) 2 (f2_30 v) := .more (nxt_goes (e_f2_19_0 v) lt_f2) (nxt_goes (e_f2_19_1 v) lt_f2) rfl (ro_f2_24 v)
theorem ro_f2_18 (v : Int) : Rounds kp FKf2 FRf2 (f2_18 v) 2 (f2_29 v) := .more (nxt_goes (e_f2_18_0 v) lt_f2) (nxt_goes (e_f2_18_1 v) lt_f2) rfl (ro_f2_23 v)
theorem ro_f2_17 (v : Int) : Rounds kp FKf2 FRf2 (f2_17 v) 2 (f2_28 v) := .more (nxt_goes (e_f2_17_0 v) lt_f2) (nxt_goes (e_f2_17_1 v) lt_f2) rfl (ro_f2_22 v)
theorem ro_f2_16 (v : Int) : Rounds kp FKf2 FRf2 (f2_16 v) 2 (f2_31 v) := .more (nxt_goes (e_f2_16_0 v) lt_f2) (nxt_goes (e_f2_20_1 v) lt_f2) rfl (ro_f2_25 v)
theorem ro_f2_15 (v : Int) : Rounds kp FKf2 FRf2 (f2_15 v) 3 (f2_30 v) := .more (nxt_goes (e_f2_15_0 v) lt_f2) (nxt_goes (e_f2_15_1 v) lt_f2) rfl (ro_f2_19 v)
theorem ro_f2_14 (v : Int) : Rounds kp FKf2 FRf2 (f2_14 v) 3 (f2_29 v) := .more (nxt_goes (e_f2_14_0 v) lt_f2) (nxt_goes (e_f2_14_1 v) lt_f2) rfl (ro_f2_18 v)
theorem ro_f2_13 (v : Int) : Rounds kp FKf2 FRf2 (f2_13 v) 3 (f2_28 v) := .more (nxt_goes (e_f2_13_0 v) lt_f2) (nxt_goes (e_f2_13_1 v) lt_f2) rfl (ro_f2_17 v)
theorem ro_f2_12 (v : Int) : Rounds kp FKf2 FRf2 (f2_12 v) 3 (f2_30 v) := .more (nxt_goes (e_f2_12_0 v) lt_f2) (nxt_goes (e_f2_15_1 v) lt_f2) rfl (ro_f2_19 v)
theorem ro_f2_11 (v : Int) : Rounds kp FKf2 FRf2 (f2_11 v) 4 (f2_29 v) := .more (nxt_goes (e_f2_11_0 v) lt_f2) (nxt_goes (e_f2_11_1 v) lt_f2) rfl (ro_f2_14 v)
theorem ro_f2_10 (v : Int) : Rounds kp FKf2 FRf2 (f2_10 v) 4 (f2_28 v) := .more (nxt_goes (e_f2_10_0 v) lt_f2) (nxt_goes (e_f2_10_1 v) lt_f2) rfl (ro_f2_13 v)
theorem ro_f2_9 (v : Int) : Rounds kp FKf2 FRf2 (f2_9 v) 4 (f2_29 v) := .more (nxt_goes (e_f2_9_0 v) lt_f2) (nxt_goes (e_f2_11_1 v) lt_f2) rfl (ro_f2_14 v)
theorem ro_f2_8 (v : Int) : Rounds kp FKf2 FRf2 (f2_8 v) 5 (f2_28 v) := .more (nxt_goes (e_f2_8_0 v) lt_f2) (nxt_goes (e_f2_8_1 v) lt_f2) rfl (ro_f2_10 v)
theorem ro_f2_7 (v : Int) : Rounds kp FKf2 FRf2 (f2_7 v) 5 (f2_28 v) := .more (nxt_goes (e_f2_7_0 v) lt_f2) (nxt_goes (e_f2_8_1 v) lt_f2) rfl (ro_f2_10 v)
theorem ro_f2_6 (v : Int) : Rounds kp FKf2 FRf2 (f2_6 v) 6 (f2_28 v) := .more (nxt_goes (e_f2_6_0 v) lt_f2) (nxt_goes (e_f2_6_1 v) lt_f2) rfl (ro_f2_7 v)
theorem ro_f2_5 (v : Int) : Rounds kp FKf2 FRf2 (f2_5 v) 7 (f2_28 v) := .more (nxt_goes (e_f2_5_0 v) lt_f2) (nxt_goes (e_f2_5_1 v) lt_f2) rfl (ro_f2_6 v)
theorem ro_f2_4 (v : Int) : Rounds kp FKf2 FRf2 (f2_4 v) 8 (f2_28 v) := .more (nxt_goes (e_f2_4_0 v) lt_f2) (nxt_goes (e_f2_4_1 v) lt_f2) rfl (ro_f2_5 v)
theorem ro_f2_3 (v : Int) : Rounds kp FKf2 FRf2 (f2_3 v) 9 (f2_28 v) := .more (nxt_goes (e_f2_3_0 v) lt_f2) (nxt_goes (e_f2_3_1 v) lt_f2) rfl (ro_f2_4 v)
theorem ro_f2_2 (v : Int) : Rounds kp FKf2 FRf2 (f2_2 v) 10 (f2_28 v) := .more (nxt_goes (e_f2_2_0 v) lt_f2) (nxt_goes (e_f2_2_1 v) lt_f2) rfl (ro_f2_3 v)
theorem ro_f2_1 (v : Int) : Rounds kp FKf2 FRf2 (f2_1 v) 11 (f2_28 v) := .more (nxt_goes (e_f2_1_0 v) lt_f2) (nxt_goes (e_f2_1_1 v) lt_f2) rfl (ro_f2_2 v)
theorem ro_f2_0 (v : Int) : Rounds kp FKf2 FRf2 (f2_0 v) 12 (f2_28 v) := .more (nxt_goes (e_f2_0_0 v) lt_f2) (nxt_goes (e_f2_0_1 v) lt_f2) rfl (ro_f2_1 v)
def fin_f2 (v : Int) : List St := [f2_28 v, f2_29 v, f2_30 v, f2_31 v, f2_32 v, f2_33 v]
theorem rounds_f2 (v : Int) : ∀ s ∈ all_f2 v, ∃ m s', m < 60000 ∧ Rounds kp FKf2 FRf2 s m s' ∧ s' ∈ fin_f2 v := by
  intro s hs
  unfold all_f2 at hs
  rcases List.mem_cons.1 hs with rfl | hs
  · exact ⟨12, _, by omega, ro_f2_0 v, List.mem_of_getElem? (i := 0) (by kernel_rfl)⟩
  rcases List.mem_cons.1 hs with rfl | hs
  · exact ⟨11, _, by omega, ro_f2_1 v, List.mem_of_getElem? (i := 0) (by kernel_rfl)⟩
  rcases List.mem_cons.1 hs with rfl | hs
  · exact ⟨10, _, by omega, ro_f2_2 v, List.mem_of_getElem? (i := 0) (by kernel_rfl)⟩
  rcases List.mem_cons.1 hs with rfl | hs
  · exact ⟨9, _, by omega, ro_f2_3 v, List.mem_of_getElem? (i := 0) (by kernel_rfl)⟩
  rcases List.mem_cons.1 hs with rfl | hs
  · exact ⟨8, _, by omega, ro_f2_4 v, List.mem_of_getElem? (i := 0) (by kernel_rfl)⟩
  rcases List.mem_cons.1 hs with rfl | hs
  · exact ⟨7, _, by omega, ro_f2_5 v, List.mem_of_getElem? (i := 0) (by kernel_rfl)⟩
  rcases List.mem_cons.1 hs with rfl | hs
  · exact ⟨6, _, by omega, ro_f2_6 v, List.mem_of_getElem? (i := 0) (by kernel_rfl)⟩
  rcases List.mem_cons.1 hs with rfl | hs
  · exact ⟨5, _, by omega, ro_f2_7 v, List.mem_of_getElem? (i := 0) (by kernel_rfl)⟩
  rcases List.mem_cons.1 hs with rfl | hs
  · exact ⟨5, _, by omega, ro_f2_8 v, List.mem_of_getElem? (i := 0) (by kernel_rfl)⟩
  rcases List.mem_cons.1 hs with rfl | hs
  · exact ⟨4, _, by omega, ro_f2_9 v, List.mem_of_getElem? (i := 1) (by kernel_rfl)⟩
  rcases List.mem_cons.1 hs with rfl | hs
  · exact ⟨4, _, by omega, ro_f2_10 v, List.mem_of_getElem? (i := 0) (by kernel_rfl)⟩
  rcases List.mem_cons.1 hs with rfl | hs
  · exact ⟨4, _, by omega, ro_f2_11 v, List.mem_of_getElem? (i := 1) (by kernel_rfl)⟩
  rcases List.mem_cons.1 hs with rfl | hs
  · exact ⟨3, _, by omega, ro_f2_12 v, List.mem_of_getElem? (i := 2) (by kernel_rfl)⟩
  rcases List.mem_cons.1 hs with rfl | hs
  · exact ⟨3, _, by omega, ro_f2_13 v, List.mem_of_getElem? (i := 0) (by kernel_rfl)⟩
  rcases List.mem_cons.1 hs with rfl | hs
  · exact ⟨3, _, by omega, ro_f2_14 v, List.mem_of_getElem? (i := 1) (by kernel_rfl)⟩
  rcases List.mem_cons.1 hs with rfl | hs
  · exact ⟨3, _, by omega, ro_f2_15 v, List.mem_of_getElem? (i := 2) (by kernel_rfl)⟩
  rcases List.mem_cons.1 hs with rfl | hs
  · exact ⟨2, _, by omega, ro_f2_16 v, List.mem_of_getElem? (i := 3) (by kernel_rfl)⟩
  rcases List.mem_cons.1 hs with rfl | hs
  · exact ⟨2, _, by omega, ro_f2_17 v, List.mem_of_getElem? (i := 0) (by kernel_rfl)⟩
  rcases List.mem_cons.1 hs with rfl | hs
  · exact ⟨2, _, by omega, ro_f2_18 v, List.mem_of_getElem? (i := 1) (by kernel_rfl)⟩
  rcases List.mem_cons.1 hs with rfl | hs
  · exact ⟨2, _, by omega, ro_f2_19 v, List.mem_of_getElem? (i := 2) (by kernel_rfl)⟩
  rcases List.mem_cons.1 hs with rfl | hs
  · exact ⟨2, _, by omega, ro_f2_20 v, List.mem_of_getElem? (i := 3) (by kernel_rfl)⟩
  rcases List.mem_cons.1 hs with rfl | hs
  · exact ⟨1, _, by omega, ro_f2_21 v, List.mem_of_getElem? (i := 4) (by kernel_rfl)⟩
  rcases List.mem_cons.1 hs with rfl | hs
  · exact ⟨1, _, by omega, ro_f2_22 v, List.mem_of_getElem? (i := 0) (by kernel_rfl)⟩
  rcases List.mem_cons.1 hs with rfl | hs
  · exact ⟨1, _, by omega, ro_f2_23 v, List.mem_of_getElem? (i := 1) (by kernel_rfl)⟩
  rcases List.mem_cons.1 hs with rfl | hs
  · exact ⟨1, _, by omega, ro_f2_24 v, List.mem_of_getElem? (i := 2) (by kernel_rfl)⟩
  rcases List.mem_cons.1 hs with rfl | hs
  · exact ⟨1, _, by omega, ro_f2_25 v, List.mem_of_getElem? (i := 3) (by kernel_rfl)⟩
  rcases List.mem_cons.1 hs with rfl | hs
  · exact ⟨1, _, by omega, ro_f2_26 v, List.mem_of_getElem? (i := 4) (by kernel_rfl)⟩
  rcases List.mem_cons.1 hs with rfl | hs
  · exact ⟨1, _, by omega, ro_f2_27 v, List.mem_of_getElem? (i := 5) (by kernel_rfl)⟩
  rcases List.mem_cons.1 hs with rfl | hs
  · exact ⟨0, _, by omega, ro_f2_28 v, List.mem_of_getElem? (i := 0) (by kernel_rfl)⟩
  rcases List.mem_cons.1 hs with rfl | hs
  · exact ⟨0, _, by omega, ro_f2_29 v, List.mem_of_getElem? (i := 1) (by kernel_rfl)⟩
  rcases List.mem_cons.1 hs with rfl | hs
  · exact ⟨0, _, by omega, ro_f2_30 v, List.mem_of_getElem? (i := 2) (by kernel_rfl)⟩
  rcases List.mem_cons.1 hs with rfl | hs
  · exact ⟨0, _, by omega, ro_f2_31 v, List.mem_of_getElem? (i := 3) (by kernel_rfl)⟩
  rcases List.mem_cons.1 hs with rfl | hs
  · exact ⟨0, _, by omega, ro_f2_32 v, List.mem_of_getElem? (i := 4) (by kernel_rfl)⟩
  rcases List.mem_cons.1 hs with rfl | hs
  · exact ⟨0, _, by omega, ro_f2_33 v, List.mem_of_getElem? (i := 5) (by kernel_rfl)⟩
  exact absurd hs List.not_mem_nil
end Top
end Go.AI
