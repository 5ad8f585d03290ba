/-
  Own work. The cells' laws: CellsLaid.
-/
import Derived.Test.YtfgaoimljkibgaaCells5
namespace Go.AI
open Go
set_option linter.unusedVariables false
set_option linter.unusedSimpArgs false
namespace Cells
theorem laid_loop (n : Nat) (hn : n ≤ 100) (ops : List Op) (ho : ops.length ≤ 200) (at' : Int) : ∀ (m i : Nat) (w : List Int) (st : Int) (tr : List (List DV)), i + m = ops.length → w.length = n → tr.length ≤ i →
    law04_CellsLaid.H18 (ops.map encOp) at' (w.map ei) i n st tr (w.map ei) (true, ()) := by
  intro m
  induction m with
  | zero =>
    intro i w st tr hi hw ht
    refine law04_CellsLaid.H18_step _ _ _ _ _ _ _ _ _ ?_
    have hv : ref04_Values.R (((w.map ei).take n).take ((w.map ei).take n).length) (w.map ei) = some (true, ()) := by
      have e : (w.map ei).take n = w.map ei := List.take_of_length_le (by simp; omega)
      rw [e, List.length_map, map_take_self, values_ok _ _ (by omega), decide_eq_true rfl]
    simp only [cond_ite, decide_eq_true_eq, List.length_map, hv, optAll_so, live_ok, if_true, needs_iff]
    rw [if_neg (by omega)]
    have hle : ((w.map ei).take n).length * 8 ≤ 140737488355328 ∧ ((w.map ei).take n).length * 1 ≤ 140737488355328 := by simp; omega
    by_cases h0 : at' ≥ 0
    · rw [if_pos h0]
      by_cases h1 : at' < w.length
      · have hk : at'.toNat < w.length := by omega
        rw [if_pos h1, map_get _ _ _ hk]
        simp only [optAll_so, ei0]
        refine ⟨by omega, hle, ?_⟩
        rw [if_neg (by omega), if_neg (by omega)]
        simp only [Nat.zero_add, map_get _ _ _ hk, optAll_so, ei0, beq_self_eq_true, if_true]
        exact ⟨⟨by omega, by omega⟩, trivial⟩
      · rw [if_neg h1]
        refine ⟨hle, ?_⟩
        rw [if_neg (by omega), if_pos (by omega)]
        trivial
    · rw [if_neg h0]
      refine ⟨hle, ?_⟩
      rw [if_pos (by omega)]
      trivial
  | succ m ih =>
    intro i w st tr hi hw ht
    have hil : i < ops.length := by omega
    refine law04_CellsLaid.H18_step _ _ _ _ _ _ _ _ _ ?_
    generalize hp : ops[i] = p
    have hg : (ops.map encOp)[i]? = some (encOp p) := by rw [map_get _ _ _ hil, hp]
    have f0 : dInt .i64 (encOp p) 0 = some p.k := rfl
    have f1 : dInt .i64 (encOp p) 1 = some p.c := rfl
    have f2 : dInt .i64 (encOp p) 2 = some p.o := rfl
    have f3 : dInt .i64 (encOp p) 3 = some p.v := rfl
    have f4 : dInt .i64 (encOp p) 4 = some p.w := rfl
    have hc : cells_Check.R p.k p.c p.o p.v p.w n = some (if may p n then 0 else 2, ()) := check_ok p n
    have hw1 : IntKind.i64.wrap ((i : Int) + 1) = ((i + 1 : Nat) : Int) := wrap_succ (by omega)
    have hin : (i : Int) < (ops.length : Int) := by omega
    have hi0 : (0 : Int) ≤ (i : Int) := by omega
    simp only [cond_ite, decide_eq_true_eq, needs_iff, Int.toNat_natCast, hg, optAll_so, f0, f1, f2, f3, f4, hc, ref_apply_ok p w (by omega), hw1, List.length_map, hin, if_true, hi0, true_and]
    by_cases hm : may p n
    · have hml : may p w.length := by rw [hw]; exact hm
      have hm2 := hm
      unfold may at hm2
      have hget : (w.map ei)[p.c.toNat]? = some (ei (got p w)) := got_get hml
      have hlt : (tr.length : Int) < 2000 := by omega
      have hs := step_ok p (got p w) ⟨by omega, by omega⟩
      simp only [if_pos hm, bne_self_eq_false, Bool.false_eq_true, if_false, Nat.zero_add, hget, optAll_so, ei0, putD_ei, hs, hlt, if_true, app_may hml, ei_set', true_and]
      refine ⟨⟨by omega, by omega⟩, ⟨by simp; omega, by simp; omega⟩, ?_⟩
      exact ih (i + 1) _ _ _ (by omega) (by simp [hw]) (by simp; omega)
    · have hml : ¬ may p w.length := by rw [hw]; exact hm
      have h2 : ((2 : Int) != 0) = true := by decide
      simp only [if_neg hm, h2, if_true, app_not hml]
      exact ih (i + 1) w _ _ (by omega) hw (by omega)
theorem overD_all (n : Nat) (x : List DV) (l : List (List DV)) (h : l.length = n) : overD (List.replicate n x) 0 l = l := by
  unfold overD
  simp [h]
theorem laid_law (l m : List Int) (ops : List Op) (at' : Int) : law04_CellsLaid.R (l.map ei) (m.map ei) (ops.map encOp) at' = some (true, ()) := by
  refine law04_CellsLaid.start _ _ _ _ _ ?_
  simp only [small_ok, optAll_so, live_ok, num_ok, cond_ite, decide_eq_true_eq, needs_iff, List.length_map, Int.toNat_natCast, Bool.not_eq_true', decide_eq_false_iff_not, bne_self_eq_false, Bool.false_eq_true, if_false, map_take_self]
  have a1 : ((2 : Int) == 0) = false := by decide
  have a2 : ((2 : Int) != 0) = true := by decide
  by_cases h1 : (l.length : Int) > 100
  · rw [if_pos h1]; trivial
  rw [if_neg h1]
  by_cases h2 : (m.length : Int) > 100
  · rw [if_pos h2]; trivial
  rw [if_neg h2]
  by_cases h3' : ¬ ops.length ≤ 200
  · rw [if_pos h3']; trivial
  have h3 : ops.length ≤ 200 := by omega
  rw [if_neg (by omega), if_neg (by omega)]
  refine ⟨⟨trivial, by omega, by omega, by omega⟩, ⟨by omega, by omega⟩, ?_⟩
  have over : overD (List.replicate l.length [DV.v (.int .i64 0)]) 0 (l.map ei) = l.map ei := overD_all _ _ _ (by simp)
  by_cases h4 : m.length = l.length
  · have over2 : overD (l.map ei) 0 (m.map ei) = m.map ei := by
      unfold overD
      simp [h4]
    have e4 : ((m.length : Int) != (l.length : Int)) = false := by rw [h4]; simp
    have e5 : ((m.length : Int) == (l.length : Int)) = true := by rw [h4]; simp
    have tk : (m.map ei).take l.length = m.map ei := by rw [← h4]; exact map_take_self _ _
    simp only [e4, e5, Bool.false_eq_true, if_false, over, over2, tk, beq_self_eq_true, Bool.not_true, if_true, List.length_map, map_take_self, values_ok _ _ (show m.length < 1000000 by omega), decide_true, optAll_so]
    refine ⟨⟨by omega, by omega⟩, ?_⟩
    exact laid_loop l.length (by omega) ops h3 at' ops.length 0 m 0 [] (by omega) h4 (by simp)
  · have e4 : ((m.length : Int) != (l.length : Int)) = true := by simp; omega
    have e5 : ((m.length : Int) == (l.length : Int)) = false := by simp; omega
    simp only [e4, e5, a1, Bool.false_eq_true, if_false, over, beq_self_eq_true, Bool.not_true, if_true, List.length_map, map_take_self, values_ok _ _ (show l.length < 1000000 by omega), decide_true, optAll_so]
    refine ⟨⟨by omega, by omega⟩, ?_⟩
    exact laid_loop l.length (by omega) ops h3 at' ops.length 0 l 0 [] (by omega) rfl (by simp)
end Cells
end Go.AI
