/-
  Own work. Small laws about loops and lists that the laws' specifications share.
-/
import Derived.Test.YtljhobohpnpedaaAiKit
namespace Go.AI
open Go
set_option linter.unusedVariables false
set_option linter.unusedSimpArgs false
namespace Kit
theorem eq_loop {α : Type} [DecidableEq α] (a b : List α) (H : Int → (Bool × Unit) → Prop) (hl : a.length = b.length)
    (step : ∀ (i : Nat) c, (∀ h : i < a.length, (a[i] = b[i]'(by omega) → H ((i + 1 : Nat) : Int) c) ∧ (a[i] ≠ b[i]'(by omega) → c = (false, ()))) → (a.length ≤ i → c = (true, ())) → H i c) : H 0 (decide (a = b), ()) := by
  have key : ∀ n i : Nat, i + n = a.length → a.take i = b.take i → H i (decide (a = b), ()) := by
    intro n
    induction n with
    | zero =>
      intro i hi ht
      refine step i _ (fun h => absurd h (by omega)) fun _ => ?_
      rw [List.take_of_length_le (by omega), List.take_of_length_le (by omega)] at ht
      rw [decide_eq_true ht]
    | succ n ih =>
      intro i hi ht
      refine step i _ (fun h => ⟨fun he => ih (i + 1) (by omega) ?_, fun hne => ?_⟩) (fun h => absurd h (by omega))
      · rw [List.take_succ_eq_append_getElem h, List.take_succ_eq_append_getElem (by omega), ht, he]
      · rw [decide_eq_false]
        intro e
        subst e
        exact hne rfl
  exact key a.length 0 (by omega) rfl
theorem if_swap {α : Type} {p : Prop} [Decidable p] {c x y : α} (h1 : p → c = x) (h2 : ¬ p → c = y) : if p then c = x else c = y := by
  split
  · exact h1 ‹_›
  · exact h2 ‹_›
theorem take_map_len {α β : Type} (f : α → β) (l : List α) : (l.map f).take l.length = l.map f := List.take_of_length_le (by simp)
theorem wrap_pred {n : Nat} (h : n < 9223372036854775807) (h0 : 0 < n) : IntKind.i64.wrap ((n : Int) - 1) = ((n - 1 : Nat) : Int) := by
  rw [wrap_id (by omega) (by omega)]; omega
theorem wrap_pred_int {n : Nat} (h : n < 9223372036854775807) : IntKind.i64.wrap ((n : Int) - 1) = (n : Int) - 1 := wrap_id (by omega) (by omega)
/-- As 'cond_false', 'cond_true', but no unfolding for the kernel. -/
theorem cF (A B : Prop) : cond false A B = B := propext ⟨fun h => h, fun h => h⟩
theorem cT (A B : Prop) : cond true A B = A := propext ⟨fun h => h, fun h => h⟩
end Kit
end Go.AI
