/-
  Own work. The cells' laws: CellsTrace, CellsMany, CellsRuns, CellsLocks.
-/
import Derived.Test.YtfgaoimljkibgaaCells3
namespace Go.AI
open Go
set_option linter.unusedVariables false
set_option linter.unusedSimpArgs false
namespace Cells

def opOf (r : Rec) : Op := ⟨r.1, r.2.1, r.2.2.1, r.2.2.2.1, r.2.2.2.2.1⟩
theorem opOf_rec (p : Op) (g : Int) (b : Bool) : opOf (rec p g b) = p := rfl
/-- A trace's steps, one behind the other: the values behind them, if each one answers as the trace says. -/
def replay (v : List Int) : List Rec → Option (List Int)
  | [] => some v
  | r :: t => if (app (opOf r) v).2 = r then replay (app (opOf r) v).1 t else none
theorem replay_append (v : List Int) (a b : List Rec) : replay v (a ++ b) = (replay v a).bind fun w => replay w b := by
  induction a generalizing v with
  | nil => rfl
  | cons r t ih =>
    simp only [List.cons_append, replay]
    split
    · exact ih _
    · rfl
theorem replay_one {p : Op} {v : List Int} (hm : may p v.length) : replay v [(app p v).2] = some (app p v).1 := by
  show (if (app (opOf (app p v).2) v).2 = (app p v).2 then replay (app (opOf (app p v).2) v).1 [] else none) = _
  have e : opOf (app p v).2 = p := by rw [app_may hm]; rfl
  rw [if_pos (by rw [e]), e]
  rfl
theorem ei0 (x : Int) : dInt .i64 (ei x) 0 = some x := rfl
theorem putD_ei (x y : Int) : putD (ei x) 0 [.v (.int .i64 y)] = ei y := rfl
theorem ei_set' (l : List Int) (i : Nat) (x : Int) : (l.map ei).set i (ei x) = (l.set i x).map ei := by rw [List.map_set]
theorem map_take_self {α β : Type} (f : α → β) (l : List α) : (l.map f).take l.length = l.map f := List.take_of_length_le (by simp)

theorem trace_check (n : Nat) (hn : n ≤ 100) (tr : List Rec) (vals : List Int) (ht : tr.length ≤ 200) (hvl : vals.length = n) (b : List (List DV)) :
    ∀ (m j : Nat) (v : List Int), j + m = tr.length → v.length = n → replay v (tr.drop j) = some vals → law04_CellsTrace.H14 (v.map ei) (tr.map encRec) j n tr.length b (vals.map ei) (true, ()) := by
  intro m
  induction m with
  | zero =>
    intro j v hj hv hr
    rw [List.drop_of_length_le (by omega)] at hr
    simp only [replay, Option.some.injEq] at hr
    subst hr
    refine law04_CellsTrace.H14_step _ _ _ _ _ _ _ _ ?_
    simp only [cond_ite, decide_eq_true_eq, List.length_map, needs_iff]
    rw [if_neg (by omega)]
    have e : (v.map ei).take n = v.map ei := List.take_of_length_le (by simp; omega)
    rw [e, List.length_map, map_take_self, values_ok _ _ (by omega)]
    simp only [optAll_so, decide_true, if_true, beq_self_eq_true, live_ok]
    exact ⟨⟨by omega, by omega⟩, trivial⟩
  | succ m ih =>
    intro j v hj hv hr
    have hjl : j < tr.length := by omega
    rw [List.drop_eq_getElem_cons hjl] at hr
    simp only [replay] at hr
    split at hr
    · rename_i he
      refine law04_CellsTrace.H14_step _ _ _ _ _ _ _ _ ?_
      simp only [cond_ite, decide_eq_true_eq, List.length_map, needs_iff, Nat.zero_add, Int.toNat_natCast]
      rw [if_pos (by omega), map_get _ _ _ hjl, wrap_succ (by omega)]
      refine ⟨⟨by omega, by omega⟩, ?_⟩
      simp only [encRec, dInt, dBool, List.getElem?_cons_zero, List.getElem?_cons_succ, optAll_so, if_true]
      have ha := apply_ok (opOf tr[j]) v (by omega)
      simp only [opOf] at ha
      rw [ha, optAll_so]
      refine ⟨⟨by omega, by omega⟩, ?_⟩
      have he' : (app ⟨tr[j].1, tr[j].2.1, tr[j].2.2.1, tr[j].2.2.2.1, tr[j].2.2.2.2.1⟩ v).2 = tr[j] := he
      simp only [he', rec_eq]
      exact ih (j + 1) _ (by omega) (by rw [app_len]; exact hv) hr
    · cases hr
theorem trace_loop (n : Nat) (hn : n ≤ 100) (ops : List Op) (ho : ops.length ≤ 200) : ∀ (m i : Nat) (vals : List Int) (tr : List Rec), i + m = ops.length → vals.length = n → replay (List.replicate n 0) tr = some vals → tr.length ≤ i →
    law04_CellsTrace.H8 n (ops.map encOp) i n tr.length (tr.map encRec) (vals.map ei) (true, ()) := by
  intro m
  induction m with
  | zero =>
    intro i vals tr hi hv hr ht
    refine law04_CellsTrace.H8_step _ _ _ _ _ _ _ _ ?_
    simp only [cond_ite, decide_eq_true_eq, List.length_map, needs_iff]
    rw [if_neg (by omega), zero_ok n (by omega), optAll_so, map_take_self, List.length_map]
    exact ⟨⟨by omega, by omega⟩, trace_check n hn tr vals (by omega) hv _ tr.length 0 _ (by omega) (by simp) hr⟩
  | succ m ih =>
    intro i vals tr hi hv hr ht
    have hil : i < ops.length := by omega
    refine law04_CellsTrace.H8_step _ _ _ _ _ _ _ _ ?_
    simp only [cond_ite, decide_eq_true_eq, List.length_map, needs_iff, Int.toNat_natCast]
    rw [if_pos (by omega), map_get _ _ _ hil, wrap_succ (by omega)]
    refine ⟨by omega, ?_⟩
    simp only [encOp, dInt, dBool, List.getElem?_cons_zero, List.getElem?_cons_succ, optAll_so, if_true]
    generalize hp : ops[i] = p
    rw [← hv, check_ok, optAll_so]
    by_cases hm : may p vals.length
    · have hm2 := hm
      unfold may at hm2
      simp only [if_pos hm]
      rw [if_neg (by simp)]
      refine ⟨⟨by omega, by omega⟩, ?_⟩
      rw [Nat.zero_add, got_get hm, optAll_so]
      show optAll (some (got p vals)) _
      rw [optAll_so, step_ok p _ ⟨by omega, by omega⟩, optAll_so]
      rw [if_pos (by omega)]
      refine ⟨trivial, ⟨by simp; omega, by simp; omega⟩, ?_⟩
      have e1 : IntKind.i64.wrap ((tr.length : Int) + 1) = ((tr.length + 1 : Nat) : Int) := wrap_succ (by omega)
      rw [e1]
      have := ih (i + 1) (app p vals).1 (tr ++ [(app p vals).2]) (by omega) (by rw [app_len]; exact hv) (by
        rw [replay_append, hr]
        exact replay_one hm) (by simp; omega)
      rw [List.map_append, List.length_append, app_may hm, ← hv] at this
      simp only [← ei_set'] at this
      exact this
    · simp only [if_neg hm]
      rw [if_pos (by simp)]
      rw [hv]
      exact ih (i + 1) vals tr (by omega) hv hr (by omega)
theorem trace_law (n : Int) (ops : List Op) : law04_CellsTrace.R n (ops.map encOp) = some (true, ()) := by
  refine law04_CellsTrace.start _ _ _ ?_
  simp only [small_ok, optAll_so, cond_ite, decide_eq_true_eq, needs_iff, List.length_map, live_ok, num_ok, Bool.not_eq_true', decide_eq_false_iff_not, bne_iff_ne]
  by_cases hl : ops.length ≤ 200
  · rw [if_neg (by omega)]
    by_cases h0 : n < 0
    · rw [if_pos h0]; trivial
    · rw [if_neg h0]
      by_cases h1 : n > 100
      · rw [if_pos h1]; trivial
      · rw [if_neg h1, if_neg h0, if_neg (by omega)]
        refine ⟨⟨trivial, by omega, by omega, by omega⟩, ?_⟩
        rw [if_neg (by simp)]
        obtain ⟨k, rfl⟩ : ∃ k : Nat, n = k := ⟨n.toNat, by omega⟩
        have := trace_loop k (by omega) ops hl ops.length 0 (List.replicate k 0) [] (by omega) (by simp) rfl (by simp)
        rw [List.map_replicate] at this
        exact this
  · rw [if_pos (by omega)]; trivial

theorem many_check (tr : List Rec) (ht : tr.length ≤ 2000) (hv : ∀ j (h : j < tr.length), tr[j].2.2.2.1 = j) : ∀ m j : Nat, j + m = tr.length → law04_CellsMany.H21 (tr.map encRec) j (true, ()) := by
  intro m
  induction m with
  | zero =>
    intro j hj
    refine law04_CellsMany.H21_step _ _ _ ?_
    simp only [cond_ite, decide_eq_true_eq, List.length_map, needs_iff, live_ok, optAll_so]
    rw [if_neg (by omega)]; trivial
  | succ m ih =>
    intro j hj
    have hjl : j < tr.length := by omega
    refine law04_CellsMany.H21_step _ _ _ ?_
    simp only [cond_ite, decide_eq_true_eq, List.length_map, needs_iff, Nat.zero_add, Int.toNat_natCast, bne_iff_ne]
    rw [if_pos (by omega), map_get _ _ _ hjl, wrap_succ (by omega)]
    refine ⟨⟨by omega, by omega⟩, ?_⟩
    simp only [encRec, dInt, List.getElem?_cons_zero, List.getElem?_cons_succ, optAll_so, if_true]
    rw [if_neg (by simp [hv j hjl])]
    exact ih (j + 1) (by omega)
set_option maxRecDepth 10000 in
theorem many_loop (n : Nat) (hn : n ≤ 2500) (o w : Int) : ∀ (m i : Nat) (x : Int) (vals : List Int) (tr : List Rec), i + m = n → vals.length = 3 → tr.length = min i 2000 → (∀ j (h : j < tr.length), tr[j].2.2.2.1 = j) →
    law04_CellsMany.H9 n i 2 1 o x w 3 i (tr.map encRec) (vals.map ei) (true, ()) := by
  intro m
  induction m with
  | zero =>
    intro i x vals tr hi hv ht hval
    refine law04_CellsMany.H9_step _ _ _ _ _ _ _ _ _ _ _ _ ?_
    simp only [cond_ite, decide_eq_true_eq, List.length_map, needs_iff, num_ok, optAll_so, bne_iff_ne, List.length_take]
    rw [if_neg (by omega), if_neg (by simp)]
    refine ⟨⟨by omega, by omega⟩, ?_⟩
    have hin : i = n := by omega
    subst hin
    rw [if_neg (by simp), if_neg (by split <;> omega), map_take_self]
    exact many_check tr (by omega) hval tr.length 0 (by omega)
  | succ m ih =>
    intro i x vals tr hi hv ht hval
    refine law04_CellsMany.H9_step _ _ _ _ _ _ _ _ _ _ _ _ ?_
    have hc := check_ok ⟨2, 1, o, i, w⟩ 3
    have hm : may ⟨2, 1, o, i, w⟩ vals.length := by rw [hv]; unfold may; simp
    simp only [if_pos (show may ⟨2, 1, o, i, w⟩ 3 by rw [← hv]; exact hm)] at hc
    have hg : (vals.map ei)[(1 : Int).toNat]? = some (ei (got ⟨2, 1, o, i, w⟩ vals)) := got_get hm
    have hs := step_ok ⟨2, 1, o, i, w⟩ (got ⟨2, 1, o, i, w⟩ vals) ⟨show (1 : Int) ≤ 2 by decide, show (2 : Int) ≤ 5 by decide⟩
    simp only [cond_ite, decide_eq_true_eq, List.length_map, needs_iff, optAll_so, bne_iff_ne, hc, Nat.zero_add, hg, ei0, putD_ei, hs]
    rw [if_pos (by omega), if_neg (by simp)]
    refine ⟨⟨by omega, by omega⟩, ?_⟩
    rw [wrap_succ (by omega)]
    have key : ∀ tr' : List Rec, tr'.length = min (i + 1) 2000 → (∀ j (h : j < tr'.length), tr'[j].2.2.2.1 = j) → law04_CellsMany.H9 n ((i + 1 : Nat) : Int) 2 1 o i w 3 ((i + 1 : Nat) : Int) (tr'.map encRec) ((vals.map ei).set (1 : Int).toNat (ei (next ⟨2, 1, o, i, w⟩ (got ⟨2, 1, o, i, w⟩ vals)).1)) (true, ()) := by
      intro tr' h1 h2
      rw [ei_set']
      exact ih (i + 1) i _ tr' (by omega) (by simp [hv]) h1 h2
    by_cases hlt : (tr.length : Int) < 2000
    · rw [if_pos hlt]
      refine ⟨trivial, ⟨by simp; omega, by simp; omega⟩, ?_⟩
      have := key (tr ++ [rec ⟨2, 1, o, i, w⟩ (got ⟨2, 1, o, i, w⟩ vals) (next ⟨2, 1, o, i, w⟩ (got ⟨2, 1, o, i, w⟩ vals)).2]) (by simp; omega) (by
        intro j hj
        rw [List.getElem_append]
        split
        · rename_i h; exact hval j h
        · rename_i h
          simp at hj
          have : j = tr.length := by omega
          subst this
          simp [rec]
          omega)
      rw [List.map_append] at this
      exact this
    · rw [if_neg hlt]
      exact key tr (by omega) hval
theorem many_law (n : Int) (p : Op) : law04_CellsMany.R n p.k p.c p.o p.v p.w = some (true, ()) := by
  refine law04_CellsMany.start _ _ _ _ _ _ _ ?_
  simp only [optAll_so, cond_ite, decide_eq_true_eq, live_ok, num_ok, bne_iff_ne]
  by_cases h0 : n < 0
  · rw [if_pos h0]; trivial
  · rw [if_neg h0]
    by_cases h1 : n > 2500
    · rw [if_pos h1]; trivial
    · rw [if_neg h1, if_neg (by simp)]
      obtain ⟨k, rfl⟩ : ∃ k : Nat, n = k := ⟨n.toNat, by omega⟩
      exact many_loop k (by omega) p.o p.w k 0 p.v [0, 0, 0] [] (by omega) rfl rfl (by simp)
end Cells
end Go.AI
