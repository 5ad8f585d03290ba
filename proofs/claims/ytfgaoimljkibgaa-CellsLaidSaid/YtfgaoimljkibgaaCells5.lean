/-
  Own work. The cells' laws: CellsRuns, CellsLocks.
-/
import Derived.Test.YtfgaoimljkibgaaCells4
namespace Go.AI
open Go
set_option linter.unusedVariables false
set_option linter.unusedSimpArgs false
namespace Cells

theorem runs_loop (n : Nat) (hn : n ≤ 100) (ops : List Op) (ho : ops.length ≤ 200) : ∀ (m i : Nat) (vals : List Int) (tr : List Rec), i + m = ops.length → vals.length = n → tr.length ≤ i →
    law04_CellsRuns.H12 n (ops.map encOp) (vals.map ei) (tr.map encRec) i n tr.length (tr.map encRec) (vals.map ei) (true, ()) := by
  intro m
  induction m with
  | zero =>
    intro i vals tr hi hv ht
    refine law04_CellsRuns.H12_step _ _ _ _ _ _ _ _ _ _ ?_
    simp only [cond_ite, decide_eq_true_eq, List.length_map, needs_iff, map_take_self]
    rw [if_neg (by omega), recs_ok _ _ (by omega)]
    simp only [optAll_so, decide_true, if_true, live_ok]
    exact ⟨⟨by omega, by omega⟩, trivial⟩
  | succ m ih =>
    intro i vals tr hi hv ht
    have hil : i < ops.length := by omega
    refine law04_CellsRuns.H12_step _ _ _ _ _ _ _ _ _ _ ?_
    generalize hp : ops[i] = p
    have hg : (ops.map encOp)[i]? = some (encOp p) := by rw [map_get _ _ _ hil, hp]
    have f0 : dInt .i64 (encOp p) 0 = some p.k := rfl
    have f1 : dInt .i64 (encOp p) 1 = some p.c := rfl
    have f2 : dInt .i64 (encOp p) 2 = some p.o := rfl
    have f3 : dInt .i64 (encOp p) 3 = some p.v := rfl
    have f4 : dInt .i64 (encOp p) 4 = some p.w := rfl
    have hc : cells_Check.R p.k p.c p.o p.v p.w n = some (if may p n then 0 else 2, ()) := check_ok p n
    have hw : IntKind.i64.wrap ((i : Int) + 1) = ((i + 1 : Nat) : Int) := wrap_succ (by omega)
    have ht1 : IntKind.i64.wrap ((tr.length : Int) + 1) = ((tr.length + 1 : Nat) : Int) := wrap_succ (by omega)
    have htk : ∀ l : List Int, l.length = n → (l.map ei).take n = l.map ei := fun l hl => List.take_of_length_le (by simp; omega)
    have hin : (i : Int) < (ops.length : Int) := by omega
    have hi0 : (0 : Int) ≤ (i : Int) := by omega
    simp only [cond_ite, decide_eq_true_eq, needs_iff, Int.toNat_natCast, hg, optAll_so, f0, f1, f2, f3, f4, hc, ref_apply_ok p vals (by omega), is_ok, num_ok, hw, ht1, List.length_map, hin, if_true, hi0, true_and]
    by_cases hm : may p n
    · have hml : may p vals.length := by rw [hv]; exact hm
      have hm2 := hm
      unfold may at hm2
      have hget : (vals.map ei)[p.c.toNat]? = some (ei (got p vals)) := got_get hml
      have hlt : (tr.length : Int) < 2000 := by omega
      have hs := step_ok p (got p vals) ⟨by omega, by omega⟩
      have hset : ((vals.map ei).set p.c.toNat (ei (next p (got p vals)).1)).take n = (vals.set p.c.toNat (next p (got p vals)).1).map ei := by
        rw [ei_set', htk _ (by simp [hv])]
      simp only [if_pos hm, bne_self_eq_false, Bool.false_eq_true, if_false, Nat.zero_add, hget, optAll_so, ei0, putD_ei, hs, hlt, if_true, app_may hml, decide_eq_true hm, decide_true, beq_self_eq_true, Bool.not_true, hset, List.length_map, List.length_set, map_take_self,
        show ∀ l : List Int, (l.map ei).take (l.map ei).length = l.map ei from fun l => List.take_of_length_le (Nat.le_refl _), true_and]
      have hva : ref04_Values.R (((vals.set p.c.toNat (next p (got p vals)).1).map ei).take vals.length) ((vals.set p.c.toNat (next p (got p vals)).1).map ei) = some (true, ()) := by
        rw [List.take_of_length_le (by simp), values_ok _ _ (by simp; omega), decide_eq_true rfl]
      simp only [hva, optAll_so, Bool.not_true, Bool.false_eq_true, if_false, List.length_append, List.length_take, List.length_cons, List.length_nil, List.length_map]
      have hlen : ((tr.length + 1 : Nat) : Int) = ((tr.length + min 1 (0 + 1) : Nat) : Int) := by simp
      simp only [← hlen, bne_self_eq_false, Bool.false_eq_true, if_false]
      have := ih (i + 1) (vals.set p.c.toNat (next p (got p vals)).1) (tr ++ [rec p (got p vals) (next p (got p vals)).2]) (by omega) (by simp [hv]) (by simp; omega)
      rw [List.map_append, List.length_append] at this
      refine ⟨⟨by omega, by omega⟩, ⟨by omega, by omega⟩, ⟨by omega, by omega⟩, ⟨by omega, by omega⟩, ?_⟩
      rw [ei_set']
      exact this
    · have hml : ¬ may p vals.length := by rw [hv]; exact hm
      have h2 : ((2 : Int) != 0) = true := by decide
      have h3 : ((2 : Int) == 0) = false := by decide
      have hva : ref04_Values.R (((vals.map ei).take n).take ((vals.map ei).take n).length) (vals.map ei) = some (true, ()) := by
        rw [htk _ hv, List.length_map, map_take_self, values_ok _ _ (by omega), decide_eq_true rfl]
      simp only [if_neg hm, h2, h3, if_true, app_not hml, decide_eq_false hm, beq_self_eq_true, Bool.not_true, Bool.false_eq_true, if_false, rec0, bne_self_eq_false, hva, optAll_so]
      refine ⟨⟨by simp; omega, by simp; omega⟩, ?_⟩
      exact ih (i + 1) vals tr (by omega) hv (by omega)
theorem runs_law (n : Int) (ops : List Op) : law04_CellsRuns.R n (ops.map encOp) = some (true, ()) := by
  refine law04_CellsRuns.start _ _ _ ?_
  have a1 : ((2 : Int) == 0) = false := by decide
  have a2 : ((2 : Int) == 2) = true := by decide
  have a3 : ((2 : Int) != 0) = true := by decide
  have a4 : ((0 : Int) != 0) = false := by decide
  have a5 : ((0 : Int) == 0) = true := by decide
  simp only [small_ok, optAll_so, cond_ite, decide_eq_true_eq, needs_iff, List.length_map, live_ok, num_ok, Bool.not_eq_true', decide_eq_false_iff_not, a1, a2, a3, a4, a5, if_true, beq_self_eq_true, Bool.true_eq_false, if_false]
  by_cases hl : ops.length ≤ 200
  · rw [if_neg (by omega)]
    by_cases h1 : n > 100
    · rw [if_pos h1]
      by_cases h2 : n ≤ 4096
      · rw [if_pos h2]; trivial
      · rw [if_neg h2, if_neg (by omega), if_pos (by omega), if_pos (by omega)]
        rw [if_neg (by simp [h2])]; trivial
    · rw [if_neg h1]
      by_cases h0 : n < 0
      · rw [if_pos h0, if_neg (by omega)]; trivial
      · rw [if_neg h0, if_neg (by omega)]
        refine ⟨⟨trivial, by omega, by omega, by omega⟩, ?_⟩
        obtain ⟨k, rfl⟩ : ∃ k : Nat, n = k := ⟨n.toNat, by omega⟩
        have h3 : ((k : Int) ≤ 4096) := by omega
        rw [if_pos (by omega), if_neg (by simp [h3]), zero_ok k (by omega), optAll_so]
        have := runs_loop k (by omega) ops hl ops.length 0 (List.replicate k 0) [] (by omega) (by simp) (by simp)
        rw [List.map_replicate] at this ⊢
        exact this
  · rw [if_pos (by omega)]; trivial

theorem locks_loop (ops : List Op) (ho : ops.length ≤ 200) : ∀ (m i : Nat) (has : Int) (tr : List Rec), i + m = ops.length → tr.length ≤ i →
    law04_CellsLocks.H9 (ops.map encOp) has i 1 tr.length (tr.map encRec) [ei has] (true, ()) := by
  intro m
  induction m with
  | zero =>
    intro i has tr hi ht
    refine law04_CellsLocks.H9_step _ _ _ _ _ _ _ _ ?_
    simp only [cond_ite, decide_eq_true_eq, List.length_map, live_ok, optAll_so]
    rw [if_neg (by omega)]; trivial
  | succ m ih =>
    intro i has tr hi ht
    have hil : i < ops.length := by omega
    refine law04_CellsLocks.H9_step _ _ _ _ _ _ _ _ ?_
    generalize hp : ops[i] = p
    have hg : (ops.map encOp)[i]? = some (encOp p) := by rw [map_get _ _ _ hil, hp]
    have f0 : dInt .i64 (encOp p) 0 = some p.k := rfl
    have f1 : dInt .i64 (encOp p) 1 = some p.c := rfl
    have f2 : dInt .i64 (encOp p) 2 = some p.o := rfl
    have f3 : dInt .i64 (encOp p) 3 = some p.v := rfl
    have f4 : dInt .i64 (encOp p) 4 = some p.w := rfl
    have hw : IntKind.i64.wrap ((i : Int) + 1) = ((i + 1 : Nat) : Int) := wrap_succ (by omega)
    have ht1 : IntKind.i64.wrap ((tr.length : Int) + 1) = ((tr.length + 1 : Nat) : Int) := wrap_succ (by omega)
    have hin : (i : Int) < (ops.length : Int) := by omega
    have hi0 : (0 : Int) ≤ (i : Int) := by omega
    have hlt : (tr.length : Int) < 2000 := by omega
    have hc : cells_Check.R p.k 0 p.o p.v p.w (1 : Nat) = some (if may ⟨p.k, 0, p.o, p.v, p.w⟩ 1 then 0 else 2, ()) := check_ok ⟨p.k, 0, p.o, p.v, p.w⟩ 1
    have g0 : ([ei has] : List (List DV))[0]? = some (ei has) := rfl
    have same := ih (i + 1) has tr (by omega) (by omega)
    have more : ∀ (x : Int) (r : Rec), law04_CellsLocks.H9 (ops.map encOp) x ((i + 1 : Nat) : Int) 1 ((tr.length + 1 : Nat) : Int) (tr.map encRec ++ [encRec r]) [ei x] (true, ()) := by
      intro x r
      have := ih (i + 1) x (tr ++ [r]) (by omega) (by simp; omega)
      rw [List.map_append, List.length_append] at this
      exact this
    simp only [cond_ite, decide_eq_true_eq, needs_iff, Int.toNat_natCast, hg, optAll_so, f0, f1, f2, f3, f4, hc, hw, ht1, List.length_map, hin, if_true, hi0, true_and, bne_iff_ne, beq_iff_eq, g0, ei0, putD_ei, hlt]
    have hroom : ((tr.map encRec ++ [([] : List DV)]).length) ≤ 300 := by simp; omega
    by_cases h4 : p.k = 4
    · by_cases hw1 : p.w < 1
      · simp only [h4, hw1, if_true, ne_eq, not_true_eq_false, if_false]
        exact same
      · have hm : may ⟨p.k, 0, p.o, p.v, p.w⟩ 1 := by unfold may; simp; omega
        have hs := step_ok ⟨p.k, 0, p.o, p.v, p.w⟩ has ⟨by simp; omega, by simp; omega⟩
        simp only [h4] at hs hm ⊢
        by_cases hh : has = 0
        · subst hh
          have hs2 := hs
          simp [next] at hs2
          simp [hm, hw1, hs2, rec]
          refine ⟨by omega, ?_⟩
          dsimp only
          simp only [true_and, if_true, Bool.false_eq_true, if_false]
          exact more p.w (rec ⟨4, 0, p.o, p.v, p.w⟩ 0 true)
        · have hs2 := hs
          simp [next, hh] at hs2
          simp [hm, hw1, hs2, rec, hh]
          refine ⟨by omega, ?_⟩
          dsimp only
          simp only [true_and, if_true, Bool.false_eq_true, if_false]
          exact more has (rec ⟨4, 0, p.o, p.v, p.w⟩ has false)
    · by_cases h5 : p.k = 5
      · by_cases hw1 : p.w < 1
        · simp only [h4, h5, hw1, if_true, ne_eq, not_true_eq_false, if_false]
          simp
          exact same
        · have hm : may ⟨p.k, 0, p.o, p.v, p.w⟩ 1 := by unfold may; simp; omega
          have hs := step_ok ⟨p.k, 0, p.o, p.v, p.w⟩ has ⟨by simp; omega, by simp; omega⟩
          simp only [h5] at hs hm ⊢
          by_cases hh : has = p.w
          · subst hh
            have hs2 := hs
            simp [next] at hs2
            simp [hm, hw1, hs2, rec]
            refine ⟨by omega, ?_⟩
            dsimp only
            simp only [true_and, if_true, Bool.false_eq_true, if_false]
            exact more 0 (rec ⟨5, 0, p.o, p.v, p.w⟩ p.w true)
          · have hs2 := hs
            simp [next, hh] at hs2
            simp [hm, hw1, hs2, rec, hh]
            refine ⟨by omega, ?_⟩
            dsimp only
            simp only [true_and, if_true, Bool.false_eq_true, if_false]
            refine ⟨by simpa using hh, ?_⟩
            exact more has (rec ⟨5, 0, p.o, p.v, p.w⟩ has false)
      · simp only [h4, h5, ne_eq, not_false_eq_true, if_true]
        exact same
theorem locks_law (ops : List Op) : law04_CellsLocks.R (ops.map encOp) = some (true, ()) := by
  refine law04_CellsLocks.start _ _ ?_
  simp only [small_ok, optAll_so, cond_ite, decide_eq_true_eq, List.length_map, live_ok, num_ok, Bool.not_eq_true', decide_eq_false_iff_not, bne_iff_ne]
  by_cases hl : ops.length ≤ 200
  · rw [if_neg (by omega), if_neg (by simp)]
    exact locks_loop ops hl ops.length 0 0 [] (by omega) (by simp)
  · rw [if_pos (by omega)]; trivial
end Cells
end Go.AI
